/- A region whose order is drawn: all its orders end alike. -/
import Derived.Test.YtilffanmaicakaaAmCode
import Derived.Orders
namespace Go.Pt
open Go

section
variable {P : Program} {n₀ : Nat} {tab : Nat → Ty} {J : Jd}

/-- The same slots, the same heap. -/
structure Like (s t : St) : Prop where
  ev : ∀ i, look s.env i = look t.env i
  hp : s.hp = t.hp
  n : s.n = t.n

theorem Like.refl (s : St) : Like s s := ⟨fun _ => rfl, rfl, rfl⟩
theorem Like.trans {s t u : St} (h : Like s t) (k : Like t u) : Like s u := ⟨fun i => (h.ev i).trans (k.ev i), h.hp.trans k.hp, h.n.trans k.n⟩
theorem Like.evs {s t : St} (h : Like s t) (x : Operand) : s.ev x = t.ev x := by cases x <;> first | exact h.ev _ | rfl

theorem look_put {s : St} {d : Option Nat} {v : AV} {h : List Ent} {i : Nat} : look (s.put d v h).env i = if d = some i then v else look s.env i := by
  cases d with
  | none => simp [St.put]
  | some d =>
    simp only [St.put, look]
    split
    · rename_i e; rw [if_pos (by rw [Nat.eq_of_beq_eq_true e])]
    · rename_i e; rw [if_neg (fun he => by simp at he; subst he; simp at e)]

theorem put_hp {s : St} {d : Option Nat} {v : AV} {h : List Ent} : (s.put d v h).hp = h := by cases d <;> rfl
theorem put_n {s : St} {d : Option Nat} {v : AV} {h : List Ent} : (s.put d v h).n = s.n := by cases d <;> rfl

theorem Like.put {s t : St} (h : Like s t) (d : Option Nat) (v : AV) (k : List Ent) : Like (s.put d v k) (t.put d v k) :=
  ⟨fun i => by rw [look_put, look_put, h.ev i], by rw [put_hp, put_hp], by rw [put_n, put_n, h.n]⟩

theorem RelS.same {ρ : Ro} {s t : St} {a : Act} {w : World} (he : ∀ i, look s.env i = look t.env i) (hn : s.n = t.n) (hp : s.hp = t.hp) (h : RelS ρ s a w) : RelS ρ t a w :=
  ⟨h.defers, h.size.trans hn, hp ▸ h.rel, fun i => by rw [← hp, ← he i]; exact h.vals i⟩

/-- The place that is looked at or written. -/
def Fp.at : Fp → Option Nat
  | .no => none
  | .rd i => some i
  | .wr i _ => some i

theorem dop_frame {op : Op} {s t : St} {v : AV} {fp : Fp} (h : dop tab op s = some (v, fp)) (he : ∀ x ∈ op.operands, t.ev x = s.ev x)
    (hp : ∀ i, fp.at = some i → nth t.hp i = nth s.hp i) : dop tab op t = some (v, fp) := by
  cases op <;> simp only [dop] at h ⊢ <;> try (simp at h; done)
  all_goals simp only [Op.operands, List.mem_toArray, List.mem_cons, List.not_mem_nil, or_false, forall_eq, forall_eq_or_imp] at he
  case load x t' =>
    rw [he]
    repeat' split at h
    all_goals simp only [Option.some.injEq, Prod.mk.injEq, reduceCtorEq] at h
    · obtain ⟨rfl, rfl⟩ := h
      rename_i e1 _ _ e2 _ _ e3
      simp only [e1, hp _ rfl, e2, e3]
    · obtain ⟨rfl, rfl⟩ := h
      rename_i e1 _ _ e3
      simp only [e1, e3]
  case store t' x v' =>
    rw [he.1, he.2]
    repeat' split at h
    all_goals simp only [Option.some.injEq, Prod.mk.injEq, reduceCtorEq] at h
    obtain ⟨rfl, rfl⟩ := h
    rename_i e1 _ _ e2 _ e3 _ e4 _ e5 _ _ e6
    simp only [e1, hp _ rfl, e2, e3, e4, e5, e6]

theorem dop_aop {op : Op} {s : St} {v : AV} {fp : Fp} {K E : AV → List Ent → Prop} (h : dop tab op s = some (v, fp)) (hk : K v (fp.go s.hp)) : aop J tab op s K E := by
  cases op <;> simp only [dop] at h <;> try (simp at h; done)
  all_goals simp only [aop]
  case load x t' =>
    repeat' split at h
    all_goals simp only [Option.some.injEq, Prod.mk.injEq, reduceCtorEq] at h
    all_goals obtain ⟨rfl, rfl⟩ := h
    all_goals try simp only [*]
    all_goals exact hk
  case store t' x v' =>
    repeat' split at h
    all_goals simp only [Option.some.injEq, Prod.mk.injEq, reduceCtorEq] at h
    all_goals obtain ⟨rfl, rfl⟩ := h
    all_goals try simp only [*]
    all_goals exact hk

theorem at_some {α : Type} {xs : List α} {i : Int} (h : 0 ≤ i ∧ i < xs.length) : ∃ e, xs[i.toNat]? = some e := ⟨_, List.getElem?_eq_getElem (by omega)⟩
theorem at_someB {b : ByteArray} {i : Int} (h : 0 ≤ i ∧ i < b.size) : ∃ e, b.data.toList[i.toNat]? = some e :=
  have e : b.size = b.data.toList.length := Array.length_toList.symm ▸ rfl
  at_some (by rw [← e]; exact h)

/-- It gives v wherever its slots are the same. -/
def Sure (J : Jd) (tab : Nat → Ty) (op : Op) (s : St) (v : AV) : Prop := ∀ s' : St, (∀ x ∈ op.operands, s'.ev x = s.ev x) → ∀ K E : AV → List Ent → Prop, K v s'.hp → aop J tab op s' K E

theorem under_sure {g : Bool} {a : AV} {K : AV → Prop} (h : under g a K) : ∃ x, K x ∧ ∀ K' : AV → Prop, K' x → under g a K' := by
  unfold under at h ⊢
  split at h
  · exact ⟨_, h.2, fun K' hk => ⟨h.1, hk⟩⟩
  · exact ⟨_, h, fun K' hk => hk⟩

theorem sure_of {op : Op} (hs : sureOp tab op = true) {s : St} {K : AV → Prop} (h : aop (std P n₀) tab op s (fun v _ => K v) (fun _ _ => False)) : ∃ v, K v ∧ Sure (std P n₀) tab op s v := by
  cases op <;> simp only [sureOp, Bool.false_eq_true] at hs
  all_goals simp only [Sure, Op.operands, List.mem_toArray, List.mem_cons, List.not_mem_nil, or_false, forall_eq, forall_eq_or_imp]
  case move x => exact ⟨_, h, fun s' he K' E' hk => by simp only [aop, he]; exact hk⟩
  case assign x => exact ⟨_, h, fun s' he K' E' hk => by simp only [aop, he]; exact hk⟩
  case pick c a b =>
    simp only [aop] at h
    split at h
    · rename_i e
      obtain ⟨x, hk, hx⟩ := under_sure h
      exact ⟨x, hk, fun s' he K' E' hk' => by simp only [aop, he, e]; exact hx _ hk'⟩
    · rename_i e
      obtain ⟨x, hk, hx⟩ := under_sure h
      exact ⟨x, hk, fun s' he K' E' hk' => by simp only [aop, he, e]; exact hx _ hk'⟩
    · rename_i t e
      obtain ⟨x, h, hx⟩ := under_sure h
      obtain ⟨y, h, hy⟩ := under_sure h
      repeat' split at h
      all_goals first
        | exact h.elim
        | (refine ⟨_, h, fun s' he K' E' hk' => ?_⟩
           simp only [aop, he, e]
           refine hx _ (hy _ ?_)
           simp only [*])
    · exact h.elim
  case unOp =>
    simp only [aop] at h
    repeat' split at h
    all_goals first
      | exact h.elim
      | (refine ⟨_, h, fun s' he K' E' hk => ?_⟩; simp only [aop, he]; simp_all)
  case convert =>
    simp only [aop] at h
    repeat' split at h
    all_goals first
      | exact h.elim
      | (refine ⟨_, h, fun s' he K' E' hk => ?_⟩; simp only [aop, he]; simp_all)
  case fieldAddr =>
    simp only [aop] at h
    repeat' split at h
    all_goals first
      | exact h.elim
      | (refine ⟨_, h, fun s' he K' E' hk => ?_⟩; simp only [aop, he, *])
  case field =>
    simp only [aop] at h
    repeat' split at h
    all_goals first
      | exact h.elim
      | (refine ⟨_, h, fun s' he K' E' hk => ?_⟩; simp only [aop, he]; simp_all)
  case extract =>
    simp only [aop] at h
    repeat' split at h
    all_goals first
      | exact h.elim
      | (refine ⟨_, h, fun s' he K' E' hk => ?_⟩; simp only [aop, he]; simp_all)
  case indexAddr =>
    have ix : ∀ {xs : List AV} {n : Int} {f : AV → AV}, atIx (std P n₀) xs n (fun e => K (f e)) → ∃ v, K v ∧ ∀ K' : AV → Prop, K' v → atIx (std P n₀) xs n (fun e => K' (f e)) := by
      intro xs n f h
      obtain ⟨hi, h⟩ := h
      replace hi : 0 ≤ n ∧ n < (xs.length : Int) := hi
      obtain ⟨e, hx⟩ := at_some hi
      refine ⟨_, h e hx, fun K' hk => ⟨hi, fun e' hx' => ?_⟩⟩
      replace hx' : xs[n.toNat]? = some e' := hx'
      rw [hx] at hx'; simp only [Option.some.injEq] at hx'; subst hx'; exact hk
    simp only [aop] at h
    repeat' split at h
    all_goals first
      | exact h.elim
      | (obtain ⟨v, hk, hv⟩ := ix (f := fun e => .cptr e.cells 0) h
         refine ⟨_, hk, fun s' he K' E' hk => ?_⟩
         simp only [aop, he, *]
         exact hv (fun v => K' v s'.hp) hk)
      | (refine ⟨_, h.2, fun s' he K' E' hk => ?_⟩
         simp only [aop, he]
         simp_all)
  case index =>
    simp only [aop] at h
    repeat' split at h
    all_goals first
      | exact h.elim
      | (obtain ⟨hi, h⟩ := h
         rename_i b _
         obtain ⟨e, hx⟩ := at_someB (b := b) hi
         refine ⟨_, h _ hx, fun s' he K' E' hk => ?_⟩
         simp only [aop, he, *]
         refine ⟨by first | exact hi | exact trivial | exact ⟨trivial, trivial⟩, fun e' hx' => ?_⟩
         have := hx.symm.trans hx'
         simp only [Option.some.injEq] at this
         subst this; exact hk)
  case binOp p t x y u =>
    have key : ∀ {K : AV → Prop}, binA (std P n₀) (tab t) p (s.ev x) (s.ev y) K → ∃ v, K v ∧ ∀ K' : AV → Prop, K' v → binA (std P n₀) (tab t) p (s.ev x) (s.ev y) K' := by
      intro K h
      have ar : ∀ {p a b}, arA (std P n₀) p a b K → ∃ v, K v ∧ ∀ K' : AV → Prop, K' v → arA (std P n₀) p a b K' := by
        intro p a b h
        simp only [arA] at h ⊢
        repeat' split at h
        all_goals first
          | exact h.elim
          | exact ⟨_, h, fun K' hk => by simp_all⟩
          | exact ⟨_, h.2, fun K' hk => by simp_all⟩
      have dv : ∀ {p a b}, dvA (std P n₀) p a b K → ∃ v, K v ∧ ∀ K' : AV → Prop, K' v → dvA (std P n₀) p a b K' := by
        intro p a b h
        simp only [dvA] at h ⊢
        repeat' split at h
        all_goals first
          | exact h.elim
          | exact ⟨_, h.2, fun K' hk => by simp_all⟩
      have sh : ∀ {p a b}, shA (std P n₀) p a b K → ∃ v, K v ∧ ∀ K' : AV → Prop, K' v → shA (std P n₀) p a b K' := by
        intro p a b h
        simp only [shA] at h ⊢
        repeat' split at h
        all_goals first
          | exact h.elim
          | exact ⟨_, h.2, fun K' hk => by simp_all⟩
      have cp : ∀ {p a b}, cpA (std P n₀) p a b K → ∃ v, K v ∧ ∀ K' : AV → Prop, K' v → cpA (std P n₀) p a b K' := by
        intro p a b h
        simp only [cpA] at h ⊢
        repeat' split at h
        all_goals first
          | exact h.elim
          | exact ⟨_, h, fun K' hk => by simp_all⟩
      have eq : ∀ {n a b}, (∀ e, (tab t).k ≠ .slice e) → eqA (std P n₀) (tab t) n a b K → ∃ v, K v ∧ ∀ K' : AV → Prop, K' v → eqA (std P n₀) (tab t) n a b K' := by
        intro n a b hn h
        unfold eqA at h ⊢
        split at h
        · obtain ⟨⟨e, he⟩, _⟩ := h; exact absurd he (hn e)
        · repeat' split at h
          all_goals first
            | exact h.elim
            | exact ⟨_, h, fun K' hk => by simp_all⟩
      have noS : ∀ {b : Bool}, (match (tab t).k with | .slice _ => false | _ => true) = true → ∀ e, (tab t).k ≠ .slice e := by
        intro _ h e he
        rw [he] at h; simp at h
      cases p <;> simp only [binA] at h ⊢ <;> first | exact ar h | exact dv h | exact sh h | exact cp h | exact eq (noS (b := true) hs) h
    simp only [aop] at h ⊢
    obtain ⟨v, hk, hv⟩ := key h
    exact ⟨v, hk, fun s' he K' E' hk' => by rw [he.1, he.2]; exact hv _ hk'⟩

theorem sureG_of {op : Op} (hs : sureOp tab op = true) {g : Bool} {s : St} {K : AV → Prop} (h : aopG (std P n₀) tab g op s (fun v _ => K v) (fun _ _ => False)) :
    ∃ v, K v ∧ ∀ s' : St, (∀ x ∈ op.operands, s'.ev x = s.ev x) → ∀ K E : AV → List Ent → Prop, K v s'.hp → aopG (std P n₀) tab g op s' K E := by
  cases op
  case pick c a b =>
    simp only [Op.operands, List.mem_toArray, List.mem_cons, List.not_mem_nil, or_false, forall_eq, forall_eq_or_imp]
    simp only [aopG] at h
    split at h
    · rename_i e
      obtain ⟨x, hk, hx⟩ := under_sure h
      exact ⟨x, hk, fun s' he K' E' hk' => by simp only [aopG, he, e]; exact hx _ hk'⟩
    · rename_i e
      obtain ⟨x, hk, hx⟩ := under_sure h
      exact ⟨x, hk, fun s' he K' E' hk' => by simp only [aopG, he, e]; exact hx _ hk'⟩
    · rename_i t e
      obtain ⟨x, h, hx⟩ := under_sure h
      obtain ⟨y, h, hy⟩ := under_sure h
      repeat' split at h
      all_goals first
        | exact h.elim
        | (refine ⟨_, h, fun s' he K' E' hk' => ?_⟩
           simp only [aopG, he, e]
           refine hx _ (hy _ ?_)
           simp only [*])
    · exact h.elim
  all_goals exact sure_of (P := P) (n₀ := n₀) hs h

def St.over (s : St) (o : List (Nat × AV)) : St := ⟨o ++ s.env, s.hp, s.n⟩

theorem look_over {o e : List (Nat × AV)} {f : List (Nat × AV)} {t : Nat} (h : look e t = look f t) : look (o ++ e) t = look (o ++ f) t := by
  induction o with
  | nil => exact h
  | cons x o ih => simp only [List.cons_append, look]; split <;> first | rfl | exact ih

theorem ev_over {s t : St} {o : List (Nat × AV)} {x : Operand} (h : s.ev x = t.ev x) : (s.over o).ev x = (t.over o).ev x := by
  cases x with
  | tmp u => exact look_over h
  | _ => rfl

theorem strip_sure {g : Bool} : ∀ {l : List Operand} {s : St} {K : St → Prop}, strip g l s K → ∃ o, K (s.over o) ∧ ∀ s' : St, (∀ x ∈ l, s'.ev x = s.ev x) → ∀ K' : St → Prop, K' (s'.over o) → strip g l s' K'
  | [], s, K, h => ⟨[], h, fun _ _ _ h => h⟩
  | .tmp t :: r, s, K, h => by
    simp only [strip] at h
    split at h
    · rename_i g' v e
      obtain ⟨o, hk, ho⟩ := strip_sure h.2
      refine ⟨o ++ [(t, v)], by simpa [St.over] using hk, fun s' he K' hk' => ?_⟩
      have e' : look s'.env t = .cond g' v := (he (.tmp t) List.mem_cons_self).trans e
      simp only [strip, e']
      refine ⟨h.1, ho _ (fun x hx => ?_) K' (by simpa [St.over] using hk')⟩
      have := he x (List.mem_cons_of_mem _ hx)
      cases x with
      | tmp u => simp only [St.ev, look]; split <;> first | rfl | exact this
      | _ => rfl
    · rename_i e
      obtain ⟨o, hk, ho⟩ := strip_sure h
      refine ⟨o, hk, fun s' he K' hk' => ?_⟩
      have e' : look s'.env t = look s.env t := he (.tmp t) List.mem_cons_self
      simp only [strip, e']
      exact ho s' (fun x hx => he x (List.mem_cons_of_mem _ hx)) K' hk'
  | .const _ :: r, s, K, h => let ⟨o, hk, ho⟩ := strip_sure (l := r) h; ⟨o, hk, fun s' he => ho s' fun x hx => he x (List.mem_cons_of_mem _ hx)⟩
  | .global _ :: r, s, K, h => let ⟨o, hk, ho⟩ := strip_sure (l := r) h; ⟨o, hk, fun s' he => ho s' fun x hx => he x (List.mem_cons_of_mem _ hx)⟩
  | .func _ :: r, s, K, h => let ⟨o, hk, ho⟩ := strip_sure (l := r) h; ⟨o, hk, fun s' he => ho s' fun x hx => he x (List.mem_cons_of_mem _ hx)⟩

theorem reads_sub {op : Op} {x : Operand} (h : x ∈ reads op) : x ∈ op.operands := by
  cases op
  case pick c a b => simp only [reads, List.mem_singleton] at h; simp [Op.operands, h]
  all_goals simpa [reads] using h

/-- What an operation looks at is the same. -/
structure Agree (all : List Oper) (q : Oper) (s s' : St) : Prop where
  n : s'.n = s.n
  ev : ∀ x ∈ q.op.operands, s'.ev x = s.ev x
  gd : ∀ j b d, q.guard = some (j, b) → (nth all j).bind (·.dst) = some d → look s'.env d = look s.env d

/-- What an operation does. -/
def Does (P : Program) (ops : Array Oper) (i : Nat) (q : Oper) (s : St) (v : AV) (fp : Fp) : Prop :=
  ∀ s' : St, Agree ops.toList q s s' → (∀ i, fp.at = some i → nth s'.hp i = nth s.hp i) → ∀ (ρ : Ro) (a : Act) (w : World) (Q : Exit → Act → World → Prop) (next : Act → World → Prop), RelS ρ s' a w →
    (∀ ρ' a' w', RelS ρ' (s'.put q.dst v (fp.go s'.hp)) a' w' → Stp ρ s'.hp w ρ' (fp.go s'.hp) w' → next a' w') → wpOp P ops Q i next a w

theorem Does.frame {ops : Array Oper} {i : Nat} {q : Oper} {s t : St} {v : AV} {fp : Fp} (h : Does P ops i q s v fp) (he : Agree ops.toList q s t)
    (hp : ∀ i, fp.at = some i → nth t.hp i = nth s.hp i) : Does P ops i q t v fp :=
  fun s' ha hp' => h s' ⟨ha.n.trans he.n, fun x hx => (ha.ev x hx).trans (he.ev x hx), fun j b d h1 h2 => (ha.gd j b d h1 h2).trans (he.gd j b d h1 h2)⟩ fun i hi => (hp' i hi).trans (hp i hi)

theorem Does.of (ht : TabOk P tab) {ops : Array Oper} {i : Nat} {q : Oper} {s : St} {v : AV} {fp : Fp} (hq : ops[i]? = some q)
    (h : ∀ s' : St, Agree ops.toList q s s' → (∀ i, fp.at = some i → nth s'.hp i = nth s.hp i) → ∀ K : St → Prop, K (s'.put q.dst v (fp.go s'.hp)) → aops (std P n₀) tab ops.toList [q] s' K (fun _ _ => False)) : Does P ops i q s v fp := by
  intro s' ha hp ρ a w Q next hs hn
  refine aops_step ht hq (h s' ha hp (fun x => x = s'.put q.dst v (fp.go s'.hp)) rfl) hs (fun x ρ' a' w' hk _ hr hst => ?_) (fun x v ρ' σ' w' hx _ _ _ => hx.elim)
  have hk : x = s'.put q.dst v (fp.go s'.hp) := hk
  subst hk
  rw [put_hp] at hst
  exact hn ρ' a' w' hr hst

theorem wanted_of {ops : Array Oper} {q : Oper} {j d : Nat} {b g : Bool} {ρ : Ro} {s : St} {a : Act} {w : World} (hs : RelS ρ s a w) (hg : q.guard = some (j, b)) (hd : (nth ops.toList j).bind (·.dst) = some d)
    (h : gOf (std P n₀) b (look s.env d) = some g) : Region.wanted q (yielded ops a.tmps) = g := by
  obtain ⟨hy1, hy2⟩ := yield_of hs hd
  have hval := hs.vals d
  unfold gOf at h
  split at h
  · rename_i t e
    rw [e] at hval
    simp only [Option.some.injEq] at h
    subst h
    have hyt := hy1 t hval
    simp only [Region.wanted, hg, hyt]
    cases t <;> cases b <;> rfl
  · rename_i g' t e
    rw [e] at hval
    simp only [Option.some.injEq] at h
    subst h
    obtain ⟨hc1, hc2⟩ := val_cond hval
    cases g' with
    | true =>
      have hyt := hy1 t (hc1 rfl)
      simp only [Region.wanted, hg, hyt]
      cases t <;> cases b <;> rfl
    | false =>
      have hyn := hy2 (hc2 rfl)
      simp only [Region.wanted, hg, hyn]
      rfl
  · simp at h

/-- A call under a guard. -/
theorem Does.guarded (ht : TabOk P tab) {ops : Array Oper} {i j d : Nat} {b g : Bool} {q : Oper} {s : St} {v : AV} {o : List (Nat × AV)} (hq : ops[i]? = some q) (hg : q.guard = some (j, b)) (hd : (nth ops.toList j).bind (·.dst) = some d)
    (hf : fits q.dst s.n = true) (h : gOf (std P n₀) b (look s.env d) = some g)
    (ho : ∀ s' : St, (∀ x ∈ reads q.op, s'.ev x = s.ev x) → ∀ K' : St → Prop, K' (s'.over o) → strip g (reads q.op) s' K')
    (hv : ∀ s' : St, Agree ops.toList q s s' → ∀ K E : AV → List Ent → Prop, K v s'.hp → aop (std P n₀) tab q.op (s'.over o) K E) : Does P ops i q s (.cond g v) .no := by
  intro s' ha hp ρ a w Q next hs hn
  have hw := wanted_of hs hg hd (by rw [ha.gd j b d hg hd]; exact h)
  have hf' : fits q.dst s'.n = true := by rw [ha.n]; exact hf
  unfold wpOp
  simp only [hq]
  cases g with
  | true =>
    rw [if_pos hw]
    left
    obtain ⟨s1, h1, h2, h3, h4⟩ := strip_sound (w := w) (ρ := ρ) (a := a) (ho s' (fun x hx => ha.ev x (reads_sub hx)) (fun x => x = s'.over o) rfl)
    subst h1
    refine aop_sound (K := fun v' h' => v' = v ∧ h' = s'.hp) (E := fun _ _ => False) ht (h4 rfl hs) (hv s' ha _ _ ⟨rfl, rfl⟩) ⟨fun v' u ρ' σ' w' hk hv hst hrl => ?_⟩ ⟨fun x v ρ' σ' w' hx _ _ _ => hx.elim⟩
    obtain ⟨rfl, rfl⟩ := hk
    exact hn ρ' _ w' (put_rel hs hf' (cond_val hv rfl) hst hrl) hst
  | false =>
    rw [if_neg (by rw [hw]; simp)]
    exact hn ρ _ w (put_rel hs hf' undef_val (Stp.refl _ _ _) hs.rel) (Stp.refl _ _ _)

/-- What is asked of the i-th operation, whatever the state. -/
structure Fixed (all : List Oper) (n i : Nat) (q : Oper) : Prop where
  is : all[i]? = some q
  guard : ∀ j b d, q.guard = some (j, b) → (nth all j).bind (·.dst) = some d → Go.Pt.waits all q.after.toList [.tmp d] = true
  fits : fits q.dst n = true
  lt : edgesLt q.after.toList i = true
  waits : waits all q.after.toList q.op.operands.toList = true
  sole : sole all q.dst i = true

/-- The operations that are left, in some order. -/
def Run (P : Program) (ops : Array Oper) (n : Nat) (f : St) : List (Nat × Fp) → List (Nat × Oper) → St → Prop
  | _, [], s => Like s f
  | acc, (i, q) :: r, s => Fixed ops.toList n i q ∧ ∃ v fp, Does P ops i q s v fp ∧ okAcc acc q.after.toList fp = true ∧ Run P ops n f ((i, fp) :: acc) r (s.put q.dst v (fp.go s.hp))

theorem okAcc_iff {es : List Edge} {fp : Fp} : ∀ {acc : List (Nat × Fp)}, okAcc acc es fp = true ↔ ∀ x ∈ acc, clash x.2 fp = true → hasEdge es x.1 = true
  | [] => by simp [okAcc]
  | (j, g) :: r => by
    simp only [okAcc, List.mem_cons, forall_eq_or_imp]
    split
    · rename_i e
      split
      · rename_i e'; rw [okAcc_iff]; simp [e, e']
      · rename_i e'; simp [e, e']
    · rename_i e; rw [okAcc_iff]; simp [e]

theorem hasEdge_iff {es : List Edge} {j : Nat} : hasEdge es j = true ↔ ∃ e ∈ es, bindAny e = true ∧ e.on = j := by
  induction es with
  | nil => simp [hasEdge]
  | cons e r ih =>
    simp only [hasEdge, List.mem_cons, exists_eq_or_imp]
    split
    · rename_i h
      split
      · rename_i h'; simp [h, Nat.eq_of_beq_eq_true h']
      · rename_i h'
        rw [ih]
        have : e.on ≠ j := fun he => by rw [he] at h'; simp at h'
        simp [this]
    · rename_i h; rw [ih]; simp [h]

theorem edgesLt_iff {es : List Edge} {i : Nat} : edgesLt es i = true ↔ ∀ e ∈ es, bindAny e = true → e.on < i := by
  induction es with
  | nil => simp [edgesLt]
  | cons e r ih =>
    simp only [edgesLt, List.mem_cons, forall_eq_or_imp]
    split
    · rename_i h
      split
      · rename_i h'; rw [ih]; simp [h, Nat.blt_eq] at *; simp [h']
      · rename_i h'
        have : ¬ e.on < i := fun hl => by
          have : Nat.blt e.on i = true := Nat.blt_eq ▸ hl
          rw [this] at h'; simp at h'
        simp [h, this]
    · rename_i h; rw [ih]; simp [h]

theorem waits_iff {all : List Oper} {es : List Edge} {l : List Operand} : waits all es l = true ↔ ∀ t, Operand.tmp t ∈ l → ∀ j, whoW all t 0 = some j → hasEdge es j = true := by
  induction l with
  | nil => simp [waits]
  | cons x r ih =>
    cases x with
    | tmp t =>
      simp only [waits]
      split
      · rename_i h
        rw [ih]
        constructor
        · intro hh t' ht' j hj
          rcases List.mem_cons.1 ht' with e | e
          · simp at e; subst e; rw [h] at hj; simp at hj
          · exact hh t' e j hj
        · intro hh t' ht' j hj; exact hh t' (List.mem_cons_of_mem _ ht') j hj
      · rename_i j h
        split
        · rename_i h'
          rw [ih]
          constructor
          · intro hh t' ht' j' hj
            rcases List.mem_cons.1 ht' with e | e
            · simp at e; subst e; rw [h] at hj; simp at hj; subst hj; exact h'
            · exact hh t' e j' hj
          · intro hh t' ht' j hj; exact hh t' (List.mem_cons_of_mem _ ht') j hj
        · rename_i h'
          simp only [Bool.false_eq_true, false_iff]
          intro hh
          rw [hh t (by simp) j h] at h'; simp at h'
    | _ => simp [waits, ih]

theorem sole_who {all : List Oper} {d i : Nat} (h : sole all (some d) i = true) : whoW all d 0 = some i := by
  simp only [sole] at h
  split at h
  · rename_i j e; rw [e, Nat.eq_of_beq_eq_true h]
  · simp at h

theorem bind_any {md : Region.Mode} (hm : md = .any) (e : Edge) : Region.binds md e = bindAny e := by
  subst hm
  unfold Region.binds bindAny
  split <;> simp_all

theorem clash_sym {f g : Fp} : clash f g = clash g f := by
  have sym : ∀ i j, Nat.beq i j = Nat.beq j i := fun i j => by
    cases h : Nat.beq j i with
    | true => rw [Nat.eq_of_beq_eq_true h]; simp
    | false =>
      cases h' : Nat.beq i j with
      | false => rfl
      | true => rw [Nat.eq_of_beq_eq_true h'] at h; simp at h
  cases f <;> cases g <;> first | rfl | exact sym _ _

theorem Run.like {ops : Array Oper} {n : Nat} {f : St} : ∀ {r : List (Nat × Oper)} {acc acc' : List (Nat × Fp)} {s t : St}, Like s t → (∀ x ∈ acc', x ∈ acc) → Run P ops n f acc r s → Run P ops n f acc' r t
  | [], _, _, _, _, hl, _, h => ⟨fun i => (hl.ev i).symm.trans (h.ev i), hl.hp.symm.trans h.hp, hl.n.symm.trans h.n⟩
  | (i, q) :: r, acc, acc', s, t, hl, ha, ⟨h1, v, fp, h2, h3, h4⟩ => by
    refine ⟨h1, v, fp, h2.frame ⟨hl.n.symm, fun x _ => (hl.evs x).symm, fun j b d _ _ => (hl.ev d).symm⟩ (fun j _ => by rw [hl.hp]), okAcc_iff.2 fun x hx => okAcc_iff.1 h3 x (ha x hx), ?_⟩
    refine Run.like (by rw [← hl.hp]; exact hl.put _ _ _) (fun x hx => ?_) h4
    rcases List.mem_cons.1 hx with e | e
    · exact e ▸ List.mem_cons_self
    · exact List.mem_cons_of_mem _ (ha x e)

theorem nth_set_ne {h : List Ent} {i j : Nat} {e : Ent} (hne : i ≠ j) : nth (setN h i e) j = nth h j := by
  rw [nth_eq, nth_eq, setN_eq, List.getElem?_set_ne hne]

theorem go_nth {f g : Fp} {h : List Ent} (hc : clash f g = false) : ∀ i, g.at = some i → nth (f.go h) i = nth h i := by
  intro i hi
  cases f with
  | wr j cs =>
    refine nth_set_ne fun he => ?_
    subst he
    cases g <;> simp [Fp.at] at hi <;> subst hi <;> simp [clash] at hc
  | _ => rfl

theorem go_comm {f g : Fp} {h : List Ent} (hc : clash f g = false) : g.go (f.go h) = f.go (g.go h) := by
  cases f <;> cases g <;> try rfl
  rename_i i c j d
  simp only [Fp.go, setN_eq]
  refine (List.set_comm _ _ fun he => ?_).symm
  subst he; simp [clash] at hc

/-- Two neighbours change places. -/
theorem Run.swap {ops : Array Oper} {n : Nat} {f : St} {acc : List (Nat × Fp)} {i j : Nat} {qi qj : Oper} {r : List (Nat × Oper)} {s : St}
    (hlt : j < i) (hne : hasEdge qi.after.toList j = false) (h : Run P ops n f acc ((j, qj) :: (i, qi) :: r) s) : Run P ops n f acc ((i, qi) :: (j, qj) :: r) s := by
  obtain ⟨fj, vj, gj, dj, oj, fi, vi, gi, di, oi, hr⟩ := h
  have hc : clash gj gi = false := by
    cases e : clash gj gi with
    | false => rfl
    | true => rw [okAcc_iff.1 oi (j, gj) List.mem_cons_self e] at hne; simp at hne
  -- i does not look at j's slot
  have evi : ∀ x ∈ qi.op.operands, s.ev x = (s.put qj.dst vj (gj.go s.hp)).ev x := by
    intro x hx
    cases x with
    | tmp t =>
      simp only [St.ev, look_put]
      rw [if_neg]
      intro hd
      have := waits_iff.1 fi.waits t (by simpa using hx) j (sole_who (hd ▸ fj.sole))
      rw [this] at hne; simp at hne
    | _ => rfl
  have gdi : ∀ k b d, qi.guard = some (k, b) → (nth ops.toList k).bind (·.dst) = some d → look s.env d = look (s.put qj.dst vj (gj.go s.hp)).env d := by
    intro k b d hg hd
    rw [look_put, if_neg]
    intro hd'
    have := waits_iff.1 (fi.guard k b d hg hd) d (by simp) j (sole_who (hd' ▸ fj.sole))
    rw [this] at hne; simp at hne
  have di' : Does P ops i qi s vi gi := di.frame ⟨put_n.symm, evi, gdi⟩ fun k hk => by rw [put_hp]; exact (go_nth hc k hk).symm
  have evj : ∀ x ∈ qj.op.operands, (s.put qi.dst vi (gi.go s.hp)).ev x = s.ev x := by
    intro x hx
    cases x with
    | tmp t =>
      simp only [St.ev, look_put]
      rw [if_neg]
      intro hd
      have := waits_iff.1 fj.waits t (by simpa using hx) i (sole_who (hd ▸ fi.sole))
      obtain ⟨e, he, hb, ho⟩ := hasEdge_iff.1 this
      have := edgesLt_iff.1 fj.lt e he hb
      omega
    | _ => rfl
  have hc' : clash gi gj = false := by rw [clash_sym]; exact hc
  have gdj : ∀ k b d, qj.guard = some (k, b) → (nth ops.toList k).bind (·.dst) = some d → look (s.put qi.dst vi (gi.go s.hp)).env d = look s.env d := by
    intro k b d hg hd
    rw [look_put, if_neg]
    intro hd'
    have := waits_iff.1 (fj.guard k b d hg hd) d (by simp) i (sole_who (hd' ▸ fi.sole))
    obtain ⟨e, he, hb, ho⟩ := hasEdge_iff.1 this
    have := edgesLt_iff.1 fj.lt e he hb
    omega
  have dj' : Does P ops j qj (s.put qi.dst vi (gi.go s.hp)) vj gj := dj.frame ⟨put_n, evj, gdj⟩ fun k hk => by rw [put_hp]; exact go_nth hc' k hk
  refine ⟨fi, vi, gi, di', okAcc_iff.2 fun x hx => okAcc_iff.1 oi x (List.mem_cons_of_mem _ hx), fj, vj, gj, dj', okAcc_iff.2 fun x hx hx' => ?_, ?_⟩
  · rcases List.mem_cons.1 hx with e | e
    · subst e; rw [hc'] at hx'; simp at hx'
    · exact okAcc_iff.1 oj x e hx'
  · refine Run.like ⟨fun k => ?_, ?_, ?_⟩ (fun x hx => ?_) hr
    · simp only [look_put]
      by_cases h1 : qi.dst = some k
      · by_cases h2 : qj.dst = some k
        · have e1 := sole_who (h1 ▸ fi.sole); have e2 := sole_who (h2 ▸ fj.sole)
          rw [e1] at e2; simp at e2; omega
        · simp [h1, h2]
      · simp [h1]
    · simp only [put_hp]; exact go_comm hc
    · simp only [put_n]
    · simp only [List.mem_cons] at hx ⊢; grind

/-- One whose operations before it are done may be first. -/
theorem Run.first {ops : Array Oper} {n : Nat} {f : St} {i : Nat} {qi : Oper} {r2 : List (Nat × Oper)} : ∀ {r1 : List (Nat × Oper)} {acc : List (Nat × Fp)} {s : St},
    (∀ x ∈ r1, x.1 < i ∧ hasEdge qi.after.toList x.1 = false) → Run P ops n f acc (r1 ++ (i, qi) :: r2) s → Run P ops n f acc ((i, qi) :: (r1 ++ r2)) s
  | [], _, _, _, h => h
  | (j, qj) :: r1, acc, s, hr, h => by
    obtain ⟨h1, h2⟩ := hr (j, qj) List.mem_cons_self
    obtain ⟨fj, vj, gj, dj, oj, h'⟩ := h
    have := Run.first (fun x hx => hr x (List.mem_cons_of_mem _ hx)) h'
    exact Run.swap h1 h2 ⟨fj, vj, gj, dj, oj, this⟩

/-- All orders. -/
theorem run_any (ht : TabOk P tab) {ops : Array Oper} {n : Nat} {f : St} {Q : Exit → Act → World → Prop} : ∀ (fuel : Nat) (r : List (Nat × Oper)) (acc : List (Nat × Fp)) (listed : Array Bool) {s : St} {a : Act} {w : World} {ρ : Ro},
    r.length = fuel → r.Pairwise (fun x y => x.1 < y.1) → (∀ i, listed.getD i true = false ↔ ∃ q, (i, q) ∈ r) → listed.size = ops.size → s.n = n →
    Run P ops n f acc r s → RelS ρ s a w →
    (∀ ρ' a' w', RelS ρ' f a' w' → Stp ρ s.hp w ρ' f.hp w' → Q .normal a' w') → wpAny P .any ops Q fuel listed a w := by
  intro fuel
  induction fuel with
  | zero =>
    intro r acc listed s a w ρ hl _ hli _ _ hr hs hf
    have : r = [] := List.length_eq_zero_iff.1 hl
    subst this
    refine ⟨?_, hf ρ a w (RelS.same hr.ev hr.n hr.hp hs) (hr.hp ▸ Stp.refl _ _ _)⟩
    rw [List.eq_nil_iff_forall_not_mem]
    intro i hi
    obtain ⟨h0, _⟩ := mem_ready.1 hi
    obtain ⟨q, hq⟩ := (hli i).1 h0
    simp at hq
  | succ fuel ih =>
    intro r acc listed s a w ρ hl hp hli hsz hsn hr hs hf
    have low : ∀ {i : Nat}, listed.getD i true = false → i < listed.size := by
      intro i h
      rcases Nat.lt_or_ge i listed.size with h' | h'
      · exact h'
      · simp [Array.getElem?_eq_none h'] at h
    have isl : ∀ {i : Nat}, i < ops.size → (¬ ∃ q, (i, q) ∈ r) → listed.getD i false = true := by
      intro i hi hn
      have : listed.getD i true = true := by
        cases e : listed.getD i true with
        | true => rfl
        | false => exact absurd ((hli i).1 e) hn
      have h' : i < listed.size := by omega
      simpa [Array.getD, h'] using this
    constructor
    · intro hready
      exfalso
      cases r with
      | nil => simp at hl
      | cons x r =>
        obtain ⟨i, q⟩ := x
        have hfx := hr.1
        have : i ∈ Region.ready .any ops listed := by
          refine mem_ready.2 ⟨(hli i).2 ⟨q, List.mem_cons_self⟩, q, by simpa using hfx.is, fun e he hb => ?_⟩
          rw [bind_any rfl] at hb
          have hlt := edgesLt_iff.1 hfx.lt e (by simpa using he) hb
          have hi : i < ops.size := by
            have := (List.getElem?_eq_some_iff.1 hfx.is).1; simpa using this
          refine isl (by omega) ?_
          rintro ⟨q', hq'⟩
          rcases List.mem_cons.1 hq' with e' | e'
          · simp at e'; omega
          · have := (List.pairwise_cons.1 hp).1 _ e'
            simp at this; omega
        rw [hready] at this; simp at this
    · intro i hi
      obtain ⟨h0, q, hq, hall⟩ := mem_ready.1 hi
      obtain ⟨q', hq'⟩ := (hli i).1 h0
      obtain ⟨r1, r2, rfl⟩ := List.append_of_mem hq'
      have hp' := List.pairwise_append.1 hp
      have hfirst : Run P ops n f acc ((i, q') :: (r1 ++ r2)) s := by
        refine Run.first (fun x hx => ⟨?_, ?_⟩) hr
        · exact hp'.2.2 x hx _ List.mem_cons_self
        · cases hb : hasEdge q'.after.toList x.1 with
          | false => rfl
          | true =>
            exfalso
            -- q' = q
            have hqq : q = q' := by
              have : ∀ (r1 : List (Nat × Oper)) {acc : List (Nat × Fp)} {s : St}, Run P ops n f acc (r1 ++ (i, q') :: r2) s → ops.toList[i]? = some q' := by
                intro r1
                induction r1 with
                | nil => intro acc s h; exact h.1.is
                | cons y r1 ih' => intro acc s h; obtain ⟨_, _, _, _, _, h⟩ := h; exact ih' h
              have := this r1 hr
              simp only [Array.getElem?_toList] at this
              rw [hq] at this; simpa using this
            obtain ⟨e, he, heb, heo⟩ := hasEdge_iff.1 hb
            have hlis := hall e (by rw [hqq]; simpa using he) (by rw [bind_any rfl]; exact heb)
            rw [heo] at hlis
            have hx' : listed.getD x.1 true = false := (hli x.1).2 ⟨x.2, List.mem_append_left _ hx⟩
            have hlt := low hx'
            simp [Array.getD, hlt] at hlis hx'
            rw [hlis] at hx'; simp at hx'
      obtain ⟨hfx, v, fp, hd, _, hrun⟩ := hfirst
      have hqq : q = q' := by
        have := hfx.is
        simp only [Array.getElem?_toList] at this
        rw [hq] at this; simpa using this
      subst hqq
      refine hd s ⟨rfl, fun _ _ => rfl, fun _ _ _ _ _ => rfl⟩ (fun _ _ => rfl) ρ a w Q _ hs fun ρ' a' w' hput hst => ?_
      refine ih (r1 ++ r2) _ _ ?_ ?_ ?_ ?_ ?_ hrun hput ?_
      · simp at hl ⊢; omega
      · refine List.pairwise_append.2 ⟨hp'.1, (List.pairwise_cons.1 hp'.2.1).2, fun x hx y hy => hp'.2.2 x hx y (List.mem_cons_of_mem _ hy)⟩
      · intro k
        have uniq : ∀ q'', (i, q'') ∉ r1 ++ r2 := by
          intro q'' hm
          rcases List.mem_append.1 hm with h' | h'
          · have := hp'.2.2 _ h' _ List.mem_cons_self; simp at this
          · have := (List.pairwise_cons.1 hp'.2.1).1 _ h'; simp at this
        by_cases hik : i = k
        · subst hik
          constructor
          · intro h
            have hlt := low h0
            simp [Array.getD, hlt] at h
          · rintro ⟨q'', hq''⟩; exact absurd hq'' (uniq q'')
        · rw [getD_set_ne true hik, hli k]
          constructor
          · rintro ⟨q'', hq''⟩
            refine ⟨q'', ?_⟩
            rcases List.mem_append.1 hq'' with h' | h'
            · exact List.mem_append_left _ h'
            · rcases List.mem_cons.1 h' with h'' | h''
              · simp at h''; exact absurd h''.1.symm hik
              · exact List.mem_append_right _ h''
          · rintro ⟨q'', hq''⟩
            refine ⟨q'', ?_⟩
            rcases List.mem_append.1 hq'' with h' | h'
            · exact List.mem_append_left _ h'
            · exact List.mem_append_right _ (List.mem_cons_of_mem _ h')
      · simp [hsz]
      · rw [put_n]; exact hsn
      · intro ρ'' a'' w'' hr'' hst''
        rw [put_hp] at hst''
        exact hf ρ'' a'' w'' hr'' (StpN.trans' hst hst'')

theorem okAcc_no {es : List Edge} {acc : List (Nat × Fp)} : okAcc acc es .no = true := okAcc_iff.2 fun x _ h => by cases h' : x.2 <;> rw [h'] at h <;> simp [clash] at h

theorem run_of (ht : TabOk P tab) {ops : Array Oper} {n : Nat} {F : Prop} {K : St → Prop} : ∀ {r : List Oper} {i : Nat} {acc : List (Nat × Fp)} {s : St}, ops.toList.drop i = r → s.n = n → drawK (std P n₀) tab ops.toList F r i acc s K →
    F ∨ ∃ f, K f ∧ Run P ops n f acc (r.zipIdx i |>.map fun x => (x.2, x.1)) s
  | [], _, _, s, _, _, h => .inr ⟨s, h, Like.refl _⟩
  | q :: r, i, acc, s, hd, hn, h => by
    have hq : ops[i]? = some q := by
      have : (ops.toList.drop i)[0]? = some q := by rw [hd]; rfl
      simpa using this
    have hq' : ops.toList[i]? = some q := by simpa using hq
    have hd' : ops.toList.drop (i + 1) = r := by rw [← List.drop_drop, hd]; rfl
    simp only [drawK] at h
    split at h
    · exact .inl h
    rename_i h2
    split at h
    · exact .inl h
    rename_i h3
    split at h
    · exact .inl h
    rename_i h4
    split at h
    · exact .inl h
    rename_i h5
    have go : ∀ {v fp}, (∀ j b d, q.guard = some (j, b) → (nth ops.toList j).bind (·.dst) = some d → waits ops.toList q.after.toList [.tmp d] = true) → Does P ops i q s v fp → okAcc acc q.after.toList fp = true → drawK (std P n₀) tab ops.toList F r (i + 1) ((i, fp) :: acc) (s.put q.dst v (fp.go s.hp)) K →
        F ∨ ∃ f, K f ∧ Run P ops n f acc ((q :: r).zipIdx i |>.map fun x => (x.2, x.1)) s := by
      intro v fp hg hdo hok hk
      rcases run_of ht (n := n) hd' (by rw [put_n]; exact hn) hk with hF | ⟨f, hf, hr⟩
      · exact .inl hF
      · refine .inr ⟨f, hf, ?_⟩
        simp only [List.zipIdx_cons, List.map_cons]
        exact ⟨⟨hq', hg, hn ▸ h2, h3, h4, h5⟩, v, fp, hdo, hok, hr⟩
    have fit : ∀ {s' : St}, Agree ops.toList q s s' → fits q.dst s'.n = true := fun ha => by rw [ha.n]; exact h2
    split at h
    · rename_i hg
      have nog : ∀ j b d, q.guard = some (j, b) → (nth ops.toList j).bind (·.dst) = some d → waits ops.toList q.after.toList [.tmp d] = true := by
        intro j b d e; rw [hg] at e; simp at e
      split at h
      · rename_i hs
        obtain ⟨o, h, ho⟩ := strip_sure h
        obtain ⟨v, hk, hv⟩ := sure_of hs h
        refine go nog (Does.of (n₀ := n₀) ht hq fun s' ha _ K' hk' => ?_) okAcc_no hk
        simp only [aops, fit ha, hg]
        refine ho s' (fun x hx => ha.ev x (reads_sub hx)) _ ?_
        exact hv (s'.over o) (fun x hx => ev_over (ha.ev x hx)) _ _ hk'
      · obtain ⟨o, h, ho⟩ := strip_sure h
        split at h
        · rename_i f args ts hop
          split at h
          · rename_i g caps hgf
            obtain ⟨v, hv, hk⟩ := h
            refine go nog (Does.of (n₀ := n₀) ht hq fun s' ha _ K' hk' => ?_) okAcc_no hk
            simp only [aops, fit ha, hg]
            refine ho s' (fun x hx => ha.ev x (reads_sub hx)) _ ?_
            have he := fun x hx => ev_over (o := o) (ha.ev x hx)
            rw [hop] at he ⊢
            have e1 := he f (by simp [Op.operands, Call.operands])
            have e2 : ∀ l : List Operand, (∀ x ∈ l, (s'.over o).ev x = (s.over o).ev x) → evs (s'.over o) l = evs (s.over o) l := by
              intro l
              induction l with
              | nil => intro _; rfl
              | cons x l ih => intro hh; simp only [evs]; rw [hh x List.mem_cons_self, ih fun y hy => hh y (List.mem_cons_of_mem _ hy)]
            have e3 := e2 args.toList fun x hx => he x (by simp [Op.operands, Call.operands]; right; simpa using hx)
            simp only [aop, e1, hgf, e3]
            exact hv _ _ _ hk'
          · exact .inl h
        · split at h
          · exact .inl h
          · rename_i v fp hdo
            split at h
            · exact .inl h
            · rename_i hok
              refine go nog (Does.of (n₀ := n₀) ht hq fun s' ha hp K' hk' => ?_) hok h
              simp only [aops, fit ha, hg]
              refine ho s' (fun x hx => ha.ev x (reads_sub hx)) _ ?_
              exact dop_aop (dop_frame hdo (fun x hx => ev_over (ha.ev x hx)) hp) hk'
    · rename_i j b hg
      split at h
      · exact .inl h
      rename_i d hd
      split at h
      · exact .inl h
      rename_i hw
      have isg : ∀ j b d, q.guard = some (j, b) → (nth ops.toList j).bind (·.dst) = some d → waits ops.toList q.after.toList [.tmp d] = true := by
        intro j' b' d' e e'
        rw [hg] at e; simp only [Option.some.injEq, Prod.mk.injEq] at e
        obtain ⟨rfl, rfl⟩ := e
        rw [hd] at e'; simp only [Option.some.injEq] at e'; subst e'; exact hw
      split at h
      · exact .inl h
      rename_i g hgo
      split at h
      · rename_i hs
        split at h
        · exact .inl h
        rename_i hqt
        obtain ⟨o, h, ho⟩ := strip_sure h
        obtain ⟨v, hk, hv⟩ := sureG_of hs h
        refine go isg (Does.of (n₀ := n₀) ht hq fun s' ha _ K' hk' => ?_) okAcc_no hk
        have hl' := ha.gd j b d hg hd
        unfold gOf at hgo
        split at hgo
        · rename_i t hl
          simp only [Option.some.injEq] at hgo; subst hgo
          rw [hl] at hl'
          simp only [aops, fit ha, hg, hd, hl', hqt]
          refine ho s' (fun x hx => ha.ev x (reads_sub hx)) _ ?_
          exact hv (s'.over o) (fun x hx => ev_over (ha.ev x hx)) _ _ hk'
        · rename_i g' t hl
          simp only [Option.some.injEq] at hgo; subst hgo
          rw [hl] at hl'
          simp only [aops, fit ha, hg, hd, hl', hqt]
          refine ho s' (fun x hx => ha.ev x (reads_sub hx)) _ ?_
          exact hv (s'.over o) (fun x hx => ev_over (ha.ev x hx)) _ _ hk'
        · simp at hgo
      · obtain ⟨o, h, ho⟩ := strip_sure h
        split at h
        · rename_i f args ts hop
          split at h
          · rename_i f' caps hgf
            obtain ⟨v, hv, hk⟩ := h
            refine go isg (Does.guarded ht hq hg hd h2 hgo ho fun s' ha K' E' hk' => ?_) okAcc_no hk
            have he := fun x hx => ev_over (o := o) (ha.ev x hx)
            rw [hop] at he ⊢
            have e1 := he f (by simp [Op.operands, Call.operands])
            have e2 : ∀ l : List Operand, (∀ x ∈ l, (s'.over o).ev x = (s.over o).ev x) → evs (s'.over o) l = evs (s.over o) l := by
              intro l
              induction l with
              | nil => intro _; rfl
              | cons x l ih => intro hh; simp only [evs]; rw [hh x List.mem_cons_self, ih fun y hy => hh y (List.mem_cons_of_mem _ hy)]
            have e3 := e2 args.toList fun x hx => he x (by simp [Op.operands, Call.operands]; right; simpa using hx)
            simp only [aop, e1, hgf, e3]
            exact hv _ _ _ hk'
          · exact .inl h
        · split at h
          · exact .inl h
          rename_i hqt
          split at h
          · exact .inl h
          rename_i v fp hdo
          split at h
          · exact .inl h
          rename_i hok
          refine go isg (Does.of (n₀ := n₀) ht hq fun s' ha hp K' hk' => ?_) hok h
          have hl' := ha.gd j b d hg hd
          have ok : ∀ g' : Bool, ∀ K2 : AV → List Ent → Prop, K2 v (fp.go s'.hp) → aopG (std P n₀) tab g' q.op (s'.over o) K2 (fun _ _ => False) := by
            intro g' K2 hk2
            have := dop_aop (J := std P n₀) (K := K2) (E := fun _ _ => False) (dop_frame (t := s'.over o) hdo (fun x hx => ev_over (ha.ev x hx)) hp) hk2
            generalize q.op = op at this hdo
            cases op <;> first | exact this | (simp [dop] at hdo; done)
          unfold gOf at hgo
          split at hgo
          · rename_i t hl
            simp only [Option.some.injEq] at hgo; subst hgo
            rw [hl] at hl'
            simp only [aops, fit ha, hg, hd, hl', hqt]
            refine ho s' (fun x hx => ha.ev x (reads_sub hx)) _ ?_
            exact ok _ _ hk'
          · rename_i g' t hl
            simp only [Option.some.injEq] at hgo; subst hgo
            rw [hl] at hl'
            simp only [aops, fit ha, hg, hd, hl', hqt]
            refine ho s' (fun x hx => ha.ev x (reads_sub hx)) _ ?_
            exact ok _ _ hk'
          · simp at hgo

theorem drew_rel {ρ : Ro} {s : St} {a : Act} {w : World} (k : Nat) (h : RelS ρ s a w) : RelS ρ s a { w with drawn := k } := by
  have hr := rel_same (w' := { w with drawn := k }) h.rel rfl rfl rfl rfl
  exact ⟨h.defers, h.size, hr.2, fun t => (h.vals t).step hr.1⟩

theorem draw_sound (ht : TabOk P tab) {id : Nat} {ops : Array Oper} {s f : St} {a : Act} {w : World} {ρ : Ro} {Q : Exit → Act → World → Prop} (h : Run P ops s.n f [] (ops.toList.zipIdx.map fun x => (x.2, x.1)) s) (hs : RelS ρ s a w)
    (hf : ∀ ρ' a' w', RelS ρ' f a' w' → Stp ρ s.hp w ρ' f.hp w' → Q .normal a' w') : (Code.region id ops true).wp P Q a w := by
  refine wp_region_any ht.mixed ?_
  refine run_any ht ops.size (ops.toList.zipIdx.map fun x => (x.2, x.1)) [] _ (by simp) ?_ ?_ (by simp) rfl h (drew_rel _ hs) ?_
  · rw [List.pairwise_map]
    have := List.pairwise_lt_range' (s := 0) (n := ops.toList.length) (step := 1)
    have key : ∀ (l : List Oper) (k : Nat), (l.zipIdx k).Pairwise fun x y => x.2 < y.2 := by
      intro l
      induction l with
      | nil => intro k; simp
      | cons x l ih =>
        intro k
        simp only [List.zipIdx_cons, List.pairwise_cons]
        refine ⟨fun y hy => ?_, ih _⟩
        have := List.le_snd_of_mem_zipIdx hy
        omega
    exact key _ 0
  · intro i
    simp only [List.mem_map, Prod.mk.injEq, Prod.exists]
    constructor
    · intro h
      have hlt : i < ops.size := by
        rcases Nat.lt_or_ge i ops.size with h' | h'
        · exact h'
        · simp [Array.getD, Nat.not_lt.2 h'] at h
      exact ⟨ops[i], ops[i], i, by simp [List.mem_zipIdx_iff_getElem?, hlt], rfl, rfl⟩
    · rintro ⟨q, q', i', hm, rfl, rfl⟩
      have hlt : i' < ops.size := by
        have := List.mem_zipIdx_iff_getElem?.1 hm
        have := (List.getElem?_eq_some_iff.1 this).1
        simpa using this
      simp [Array.getD, hlt]
  · intro ρ' a' w' hr hst
    exact hf ρ' a' w' hr ⟨hst.os, hst.tape, hst.output, hst.size, hst.frm, hst.own, hst.len, hst.rb, hst.rt, hst.rx⟩

end
end Go.Pt
