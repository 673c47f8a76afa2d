/- A region whose order is drawn: its operations, each by itself. -/
import Derived.Test.YtilffanmaicakaaAmCode
import Derived.Orders
namespace Go.Pt
open Go

section
variable {P : Program} {n₀ : Nat} {tab : Nat → Ty} {J : Jd}

/-- The same slots, the same heap. -/
structure Like (s t : St) : Prop where
  ev : ∀ i, look s.env i = look t.env i
  hp : s.hp = t.hp
  n : s.n = t.n

theorem Like.refl (s : St) : Like s s := ⟨fun _ => rfl, rfl, rfl⟩
theorem Like.trans {s t u : St} (h : Like s t) (k : Like t u) : Like s u := ⟨fun i => (h.ev i).trans (k.ev i), h.hp.trans k.hp, h.n.trans k.n⟩
theorem Like.evs {s t : St} (h : Like s t) (x : Operand) : s.ev x = t.ev x := by cases x <;> first | exact h.ev _ | rfl

theorem look_put {s : St} {d : Option Nat} {v : AV} {h : List Ent} {i : Nat} : look (s.put d v h).env i = if d = some i then v else look s.env i := by
  cases d with
  | none => simp [St.put]
  | some d =>
    simp only [St.put, look]
    split
    · rename_i e; rw [if_pos (by rw [Nat.eq_of_beq_eq_true e])]
    · rename_i e; rw [if_neg (fun he => by simp at he; subst he; simp at e)]

theorem put_hp {s : St} {d : Option Nat} {v : AV} {h : List Ent} : (s.put d v h).hp = h := by cases d <;> rfl
theorem put_n {s : St} {d : Option Nat} {v : AV} {h : List Ent} : (s.put d v h).n = s.n := by cases d <;> rfl

theorem Like.put {s t : St} (h : Like s t) (d : Option Nat) (v : AV) (k : List Ent) : Like (s.put d v k) (t.put d v k) :=
  ⟨fun i => by rw [look_put, look_put, h.ev i], by rw [put_hp, put_hp], by rw [put_n, put_n, h.n]⟩

theorem RelS.same {ρ : Ro} {s t : St} {a : Act} {w : World} (he : ∀ i, look s.env i = look t.env i) (hn : s.n = t.n) (hp : s.hp = t.hp) (h : RelS ρ s a w) : RelS ρ t a w :=
  ⟨h.defers, h.size.trans hn, hp ▸ h.rel, fun i => by rw [← hp, ← he i]; exact h.vals i⟩

theorem at_some {α : Type} {xs : List α} {i : Int} (h : 0 ≤ i ∧ i < xs.length) : ∃ e, xs[i.toNat]? = some e := ⟨_, List.getElem?_eq_getElem (by omega)⟩
theorem at_someB {b : ByteArray} {i : Int} (h : 0 ≤ i ∧ i < b.size) : ∃ e, b.data.toList[i.toNat]? = some e :=
  have e : b.size = b.data.toList.length := Array.length_toList.symm ▸ rfl
  at_some (by rw [← e]; exact h)

/-- It gives v wherever its slots are the same. -/
def Sure (J : Jd) (tab : Nat → Ty) (op : Op) (s : St) (v : AV) : Prop := ∀ s' : St, (∀ x ∈ op.operands, s'.ev x = s.ev x) → ∀ K E : AV → List Ent → Prop, K v s'.hp → aop J tab op s' K E

theorem under_sure {g : Bool} {a : AV} {K : AV → Prop} (h : under g a K) : ∃ x, K x ∧ ∀ K' : AV → Prop, K' x → under g a K' := by
  unfold under at h ⊢
  split at h
  · exact ⟨_, h.2, fun K' hk => ⟨h.1, hk⟩⟩
  · exact ⟨_, h, fun K' hk => hk⟩

theorem parts_cong {s s' : St} : ∀ {l : List (Nat × Operand)}, (∀ x, x ∈ l.map (·.2) → s'.ev x = s.ev x) → parts s' l = parts s l
  | [], _ => rfl
  | (i, x) :: l, h => by
    simp only [parts]
    rw [h x (by simp), parts_cong (l := l) fun y hy => h y (List.mem_cons_of_mem _ hy)]

theorem evs_eq' {s s' : St} : ∀ {l : List Operand}, (∀ x ∈ l, s'.ev x = s.ev x) → evs s' l = evs s l
  | [], _ => rfl
  | x :: l, h => by
    simp only [evs]
    rw [h x List.mem_cons_self, evs_eq' (l := l) fun y hy => h y (List.mem_cons_of_mem _ hy)]

theorem sure_of {op : Op} (hs : sureOp tab op = true) {s : St} {K : AV → Prop} (h : aop (std P n₀) tab op s (fun v _ => K v) (fun _ _ => False)) : ∃ v, K v ∧ Sure (std P n₀) tab op s v := by
  cases op <;> simp only [sureOp, Bool.false_eq_true] at hs
  all_goals simp only [Sure, Op.operands, List.mem_toArray, List.mem_cons, List.not_mem_nil, or_false, forall_eq, forall_eq_or_imp]
  case move x => exact ⟨_, h, fun s' he K' E' hk => by simp only [aop, he]; exact hk⟩
  case assign x => exact ⟨_, h, fun s' he K' E' hk => by simp only [aop, he]; exact hk⟩
  case pick c a b =>
    simp only [aop] at h
    split at h
    · rename_i e
      obtain ⟨x, hk, hx⟩ := under_sure h
      exact ⟨x, hk, fun s' he K' E' hk' => by simp only [aop, he, e]; exact hx _ hk'⟩
    · rename_i e
      obtain ⟨x, hk, hx⟩ := under_sure h
      exact ⟨x, hk, fun s' he K' E' hk' => by simp only [aop, he, e]; exact hx _ hk'⟩
    · rename_i t e
      obtain ⟨x, h, hx⟩ := under_sure h
      obtain ⟨y, h, hy⟩ := under_sure h
      repeat' split at h
      all_goals first
        | exact h.elim
        | (refine ⟨_, h, fun s' he K' E' hk' => ?_⟩
           simp only [aop, he, e]
           refine hx _ (hy _ ?_)
           simp only [*])
    · exact h.elim
  case unOp =>
    simp only [aop] at h
    repeat' split at h
    all_goals first
      | exact h.elim
      | (refine ⟨_, h, fun s' he K' E' hk => ?_⟩; simp only [aop, he]; simp_all)
  case convert =>
    simp only [aop] at h
    repeat' split at h
    all_goals first
      | exact h.elim
      | (refine ⟨_, h, fun s' he K' E' hk => ?_⟩; simp only [aop, he]; simp_all)
  case fieldAddr =>
    simp only [aop] at h
    repeat' split at h
    all_goals first
      | exact h.elim
      | (refine ⟨_, h, fun s' he K' E' hk => ?_⟩; simp only [aop, he, *])
  case field =>
    simp only [aop] at h
    repeat' split at h
    all_goals first
      | exact h.elim
      | (refine ⟨_, h, fun s' he K' E' hk => ?_⟩; simp only [aop, he]; simp_all)
  case extract =>
    simp only [aop] at h
    repeat' split at h
    all_goals first
      | exact h.elim
      | (refine ⟨_, h, fun s' he K' E' hk => ?_⟩; simp only [aop, he]; simp_all)
  case indexAddr =>
    have ix : ∀ {xs : List AV} {n : Int} {f : AV → AV}, atIx (std P n₀) xs n (fun e => K (f e)) → ∃ v, K v ∧ ∀ K' : AV → Prop, K' v → atIx (std P n₀) xs n (fun e => K' (f e)) := by
      intro xs n f h
      obtain ⟨hi, h⟩ := h
      replace hi : 0 ≤ n ∧ n < (xs.length : Int) := hi
      obtain ⟨e, hx⟩ := at_some hi
      refine ⟨_, h e hx, fun K' hk => ⟨hi, fun e' hx' => ?_⟩⟩
      replace hx' : xs[n.toNat]? = some e' := hx'
      rw [hx] at hx'; simp only [Option.some.injEq] at hx'; subst hx'; exact hk
    simp only [aop] at h
    repeat' split at h
    all_goals first
      | exact h.elim
      | (obtain ⟨v, hk, hv⟩ := ix (f := fun e => .cptr e.cells 0) h
         refine ⟨_, hk, fun s' he K' E' hk => ?_⟩
         simp only [aop, he, *]
         exact hv (fun v => K' v s'.hp) hk)
      | (refine ⟨_, h.2, fun s' he K' E' hk => ?_⟩
         simp only [aop, he]
         simp_all)
  case index =>
    simp only [aop] at h
    repeat' split at h
    all_goals first
      | exact h.elim
      | (obtain ⟨hi, h⟩ := h
         rename_i b _
         obtain ⟨e, hx⟩ := at_someB (b := b) hi
         refine ⟨_, h _ hx, fun s' he K' E' hk => ?_⟩
         simp only [aop, he, *]
         refine ⟨by first | exact hi | exact trivial | exact ⟨trivial, trivial⟩, fun e' hx' => ?_⟩
         have := hx.symm.trans hx'
         simp only [Option.some.injEq] at this
         subst this; exact hk)
  case nilCheck =>
    simp only [aop] at h
    repeat' split at h
    all_goals first
      | exact h.elim
      | (refine ⟨_, h, fun s' he K' E' hk => ?_⟩; simp only [aop, he]; simp_all)
  case build =>
    rename_i t ps
    have hps : ∀ (s' : St), (∀ x ∈ (Op.build t ps).operands, s'.ev x = s.ev x) → parts s' ps.toList = parts s ps.toList := fun s' he => parts_cong fun x hx => he x (by simpa [Op.operands] using hx)
    simp only [aop] at h
    repeat' split at h
    all_goals first
      | exact h.elim
      | (refine ⟨_, h, fun s' he K' E' hk => ?_⟩
         have e0 := hps s' (by simpa [Op.operands] using he)
         simp only [aop, e0, *])
  case buildSlice =>
    rename_i t n ps
    have hps : ∀ (s' : St), (∀ x ∈ (Op.buildSlice t n ps).operands, s'.ev x = s.ev x) → parts s' ps.toList = parts s ps.toList := fun s' he => parts_cong fun x hx => he x (by simpa [Op.operands] using hx)
    simp only [aop] at h
    repeat' split at h
    all_goals first
      | exact h.elim
      | (refine ⟨_, h, fun s' he K' E' hk => ?_⟩
         have e0 := hps s' (by simpa [Op.operands] using he)
         simp only [aop, e0, *])
  case makeFunc =>
    rename_i fn first caps
    simp only [aop] at h
    repeat' split at h
    all_goals first
      | exact h.elim
      | (refine ⟨_, h, fun s' he K' E' hk => ?_⟩
         have : evs s' caps.toList = evs s caps.toList := evs_eq' fun x hx => he x (by simp; right; simpa using hx)
         simp only [aop, this, *])
  case slice t x lo hi mx =>
    cases mx with
    | some m => simp at hs
    | none =>
      have ho : ∀ (s' : St) (y : Option Operand), (∀ x' ∈ (Op.slice t x lo hi none).operands, s'.ev x' = s.ev x') → (y = lo ∨ y = hi) → optI s' y = optI s y := by
        intro s' y he hy
        cases y with
        | none => rfl
        | some y =>
          have : s'.ev y = s.ev y := he y (by rcases hy with hy | hy <;> subst hy <;> simp [Op.operands])
          simp only [optI, this]
      have hx : ∀ (s' : St), (∀ x' ∈ (Op.slice t x lo hi none).operands, s'.ev x' = s.ev x') → s'.ev x = s.ev x := fun s' he => he x (by simp [Op.operands])
      have key : ∀ {l h2 : Option Int} {K : AV → Prop}, slA (std P n₀) tab (tab t) (s.ev x) l h2 none K → ∃ v, K v ∧ ∀ K' : AV → Prop, K' v → slA (std P n₀) tab (tab t) (s.ev x) l h2 none K' := by
        intro l h2 K h
        unfold slA at h ⊢
        have sx : ∀ {z : Nat} {xs : List AV} {tk : Tok}, slX (std P n₀) z xs tk l h2 none K → ∃ v, K v ∧ ∀ K' : AV → Prop, K' v → slX (std P n₀) z xs tk l h2 none K' := by
          intro z xs tk h
          unfold slX at h ⊢
          cases h2 <;> cases l <;> simp only at h ⊢
          · exact ⟨_, h, fun K' hk => hk⟩
          · exact ⟨_, h.2.2, fun K' hk => ⟨h.1, h.2.1, hk⟩⟩
          · exact ⟨_, h.2.2, fun K' hk => ⟨h.1, h.2.1, hk⟩⟩
          · exact ⟨_, h.2.2.2, fun K' hk => ⟨h.1, h.2.1, h.2.2.1, hk⟩⟩
        split at h
        · split at h
          · exact h.elim
          · split at h
            · split at h
              · exact sx h
              · exact h.elim
            · exact sx h
            · split at h
              case h_2 => exact h.elim
              unfold slV at h ⊢
              cases h2 <;> cases l <;> simp only at h ⊢
              · exact ⟨_, h, fun K' hk => hk⟩
              · exact ⟨_, h.2.2, fun K' hk => ⟨h.1, h.2.1, hk⟩⟩
              · exact ⟨_, h.2.2, fun K' hk => ⟨h.1, h.2.1, hk⟩⟩
              · exact ⟨_, h.2.2.2, fun K' hk => ⟨h.1, h.2.1, h.2.2.1, hk⟩⟩
            · exact h.elim
        · split at h
          · unfold slS at h ⊢
            cases h2 <;> cases l <;> simp only at h ⊢
            · exact ⟨_, h, fun K' hk => hk⟩
            · exact ⟨_, h.2.2, fun K' hk => ⟨h.1, h.2.1, hk⟩⟩
            · exact ⟨_, h.2.2, fun K' hk => ⟨h.1, h.2.1, hk⟩⟩
            · exact ⟨_, h.2.2.2, fun K' hk => ⟨h.1, h.2.1, h.2.2.1, hk⟩⟩
          · exact h.elim
        · exact h.elim
      have e0 : optI s none = some none := rfl
      simp only [aop, e0] at h
      split at h
      case h_2 => exact h.elim
      rename_i l hl
      split at h
      case h_2 => exact h.elim
      rename_i h2 hh
      obtain ⟨v, hk, hv⟩ := key h
      refine ⟨v, hk, fun s' he K' E' hk' => ?_⟩
      have he' : ∀ x' ∈ (Op.slice t x lo hi none).operands, s'.ev x' = s.ev x' := by simpa [Op.operands] using he
      have e1 := ho s' lo he' (.inl rfl)
      have e2 := ho s' hi he' (.inr rfl)
      have e3 := hx s' he'
      have e4 : optI s' none = some none := rfl
      simp only [aop, e1, e2, hl, hh, e3, e4]
      exact hv (fun v => K' v s'.hp) hk'
  case call c =>
    obtain ⟨callee, args, ts⟩ := c
    cases callee <;> simp only [Bool.false_eq_true] at hs
    rename_i b
    have hev : ∀ (s' : St), (∀ x ∈ (Op.call ⟨.builtin b, args, ts⟩).operands, s'.ev x = s.ev x) → evs s' args.toList = evs s args.toList := fun s' he => evs_eq' fun x hx => he x (by simp [Op.operands, Call.operands]; simpa using hx)
    have bigo : ∀ {K : AV → Prop} {h0 : List Ent}, bi (std P n₀) tab b ts.toList (evs s args.toList) h0 (fun v _ => K v) → ∃ v, K v ∧ ∀ (h1 : List Ent) (K' : AV → List Ent → Prop), K' v h1 → bi (std P n₀) tab b ts.toList (evs s args.toList) h1 K' := by
      intro K h0 h
      unfold bi at h ⊢
      cases b <;> simp only [Bool.false_eq_true] at hs <;> simp only at h ⊢
      · -- len
        split at h
        · split at h
          · rename_i t l hts
            rw [hts] at hs
            simp only at hs
            unfold lenA at h ⊢
            split at h
            · split at h
              · exact ⟨_, h, fun _ K' hk => hk⟩
              · exact h.elim
            · split at h
              · exact ⟨_, h, fun _ K' hk => hk⟩
              · exact ⟨_, h, fun _ K' hk => hk⟩
              · exact ⟨_, h, fun _ K' hk => hk⟩
              · exact ⟨_, h, fun _ K' hk => hk⟩
              · exact h.elim
            · rename_i hk; rw [hk] at hs; simp at hs
            · exact h.elim
          · exact h.elim
        · exact h.elim
      all_goals
        split at h
        · exact ⟨_, h, fun _ K' hk => hk⟩
        · exact ⟨_, h, fun _ K' hk => hk⟩
        · exact h.elim
    have hb : b ≠ .delete ∧ b ≠ .clear := by constructor <;> intro e <;> subst e <;> simp at hs
    have hred : ∀ {s' : St} {K' E' : AV → List Ent → Prop}, aop (std P n₀) tab (.call ⟨.builtin b, args, ts⟩) s' K' E' = bi (std P n₀) tab b ts.toList (evs s' args.toList) s'.hp K' := by
      intro s' K' E'
      simp only [aop]
      cases b <;> first | rfl | exact absurd rfl hb.1 | exact absurd rfl hb.2
    rw [hred] at h
    obtain ⟨v, hk, hv⟩ := bigo h
    refine ⟨v, hk, fun s' he K' E' hk' => ?_⟩
    have he' : ∀ x' ∈ (Op.call ⟨.builtin b, args, ts⟩).operands, s'.ev x' = s.ev x' := by simpa [Op.operands, Call.operands] using he
    rw [hred, hev s' he']
    exact hv _ _ hk'
  case binOp p t x y u =>
    have key : ∀ {K : AV → Prop}, binA (std P n₀) (tab t) p (s.ev x) (s.ev y) K → ∃ v, K v ∧ ∀ K' : AV → Prop, K' v → binA (std P n₀) (tab t) p (s.ev x) (s.ev y) K' := by
      intro K h
      have ar : ∀ {p a b}, arA (std P n₀) p a b K → ∃ v, K v ∧ ∀ K' : AV → Prop, K' v → arA (std P n₀) p a b K' := by
        intro p a b h
        simp only [arA] at h ⊢
        repeat' split at h
        all_goals first
          | exact h.elim
          | exact ⟨_, h, fun K' hk => by simp_all⟩
          | exact ⟨_, h.2, fun K' hk => by simp_all⟩
      have dv : ∀ {p a b}, dvA (std P n₀) p a b K → ∃ v, K v ∧ ∀ K' : AV → Prop, K' v → dvA (std P n₀) p a b K' := by
        intro p a b h
        simp only [dvA] at h ⊢
        repeat' split at h
        all_goals first
          | exact h.elim
          | exact ⟨_, h.2, fun K' hk => by simp_all⟩
      have sh : ∀ {p a b}, shA (std P n₀) p a b K → ∃ v, K v ∧ ∀ K' : AV → Prop, K' v → shA (std P n₀) p a b K' := by
        intro p a b h
        simp only [shA] at h ⊢
        repeat' split at h
        all_goals first
          | exact h.elim
          | exact ⟨_, h.2, fun K' hk => by simp_all⟩
      have cp : ∀ {p a b}, cpA (std P n₀) p a b K → ∃ v, K v ∧ ∀ K' : AV → Prop, K' v → cpA (std P n₀) p a b K' := by
        intro p a b h
        simp only [cpA] at h ⊢
        repeat' split at h
        all_goals first
          | exact h.elim
          | exact ⟨_, h, fun K' hk => by simp_all⟩
      have eq : ∀ {n a b}, (∀ e, (tab t).k ≠ .slice e) → eqA (std P n₀) (tab t) n a b K → ∃ v, K v ∧ ∀ K' : AV → Prop, K' v → eqA (std P n₀) (tab t) n a b K' := by
        intro n a b hn h
        unfold eqA at h ⊢
        split at h
        · obtain ⟨⟨e, he⟩, _⟩ := h; exact absurd he (hn e)
        · repeat' split at h
          all_goals first
            | exact h.elim
            | exact ⟨_, h, fun K' hk => by simp_all⟩
      have noS : ∀ {b : Bool}, (match (tab t).k with | .slice _ => false | _ => true) = true → ∀ e, (tab t).k ≠ .slice e := by
        intro _ h e he
        rw [he] at h; simp at h
      cases p <;> simp only [binA] at h ⊢ <;> first | exact ar h | exact dv h | exact sh h | exact cp h | exact eq (noS (b := true) hs) h
    have key : ∀ {K : AV → Prop}, binB (std P n₀) (tab t) p (s.ev x) (s.ev y) (lit1 y) K → ∃ v, K v ∧ ∀ K' : AV → Prop, K' v → binB (std P n₀) (tab t) p (s.ev x) (s.ev y) (lit1 y) K' := by
      intro K h
      cases hl : lit1 y with
      | false => rw [hl] at h; exact key h
      | true =>
        rw [hl] at h
        cases p <;> first
          | exact key h
          | (simp only [binB, bitA] at h ⊢
             split at h
             · split at h
               · split at h
                 · obtain ⟨h1, h2, h3⟩ := h
                   rcases h1 with h1 | h1
                   · refine ⟨_, h2 h1, fun K' hk => ?_⟩
                     simp_all [std, stdOps]
                   · refine ⟨_, h3 h1, fun K' hk => ?_⟩
                     simp_all [std, stdOps]
                 · exact h.elim
               · exact h.elim
             · exact h.elim)
    simp only [aop] at h ⊢
    obtain ⟨v, hk, hv⟩ := key h
    exact ⟨v, hk, fun s' he K' E' hk' => by rw [he.1, he.2]; exact hv _ hk'⟩

theorem sureG_of {op : Op} (hs : sureOp tab op = true) {g : Bool} {s : St} {K : AV → Prop} (h : aopG (std P n₀) tab g op s (fun v _ => K v) (fun _ _ => False)) :
    ∃ v, K v ∧ ∀ s' : St, (∀ x ∈ op.operands, s'.ev x = s.ev x) → ∀ K E : AV → List Ent → Prop, K v s'.hp → aopG (std P n₀) tab g op s' K E := by
  cases op
  case pick c a b =>
    simp only [Op.operands, List.mem_toArray, List.mem_cons, List.not_mem_nil, or_false, forall_eq, forall_eq_or_imp]
    simp only [aopG] at h
    split at h
    · rename_i e
      obtain ⟨x, hk, hx⟩ := under_sure h
      exact ⟨x, hk, fun s' he K' E' hk' => by simp only [aopG, he, e]; exact hx _ hk'⟩
    · rename_i e
      obtain ⟨x, hk, hx⟩ := under_sure h
      exact ⟨x, hk, fun s' he K' E' hk' => by simp only [aopG, he, e]; exact hx _ hk'⟩
    · rename_i t e
      obtain ⟨x, h, hx⟩ := under_sure h
      obtain ⟨y, h, hy⟩ := under_sure h
      repeat' split at h
      all_goals first
        | exact h.elim
        | (refine ⟨_, h, fun s' he K' E' hk' => ?_⟩
           simp only [aopG, he, e]
           refine hx _ (hy _ ?_)
           simp only [*])
    · exact h.elim
  all_goals exact sure_of (P := P) (n₀ := n₀) hs h

def St.over (s : St) (o : List (Nat × AV)) : St := ⟨o ++ s.env, s.hp, s.n⟩

theorem look_over {o e : List (Nat × AV)} {f : List (Nat × AV)} {t : Nat} (h : look e t = look f t) : look (o ++ e) t = look (o ++ f) t := by
  induction o with
  | nil => exact h
  | cons x o ih => simp only [List.cons_append, look]; split <;> first | rfl | exact ih

theorem ev_over {s t : St} {o : List (Nat × AV)} {x : Operand} (h : s.ev x = t.ev x) : (s.over o).ev x = (t.over o).ev x := by
  cases x with
  | tmp u => exact look_over h
  | _ => rfl

theorem strip_sure {g : Bool} : ∀ {l : List Operand} {s : St} {K : St → Prop}, strip g l s K → ∃ o, K (s.over o) ∧ ∀ s' : St, (∀ x ∈ l, s'.ev x = s.ev x) → ∀ K' : St → Prop, K' (s'.over o) → strip g l s' K'
  | [], s, K, h => ⟨[], h, fun _ _ _ h => h⟩
  | .tmp t :: r, s, K, h => by
    simp only [strip] at h
    split at h
    · rename_i g' v e
      obtain ⟨o, hk, ho⟩ := strip_sure h.2
      refine ⟨o ++ [(t, v)], by simpa [St.over] using hk, fun s' he K' hk' => ?_⟩
      have e' : look s'.env t = .cond g' v := (he (.tmp t) List.mem_cons_self).trans e
      simp only [strip, e']
      refine ⟨h.1, ho _ (fun x hx => ?_) K' (by simpa [St.over] using hk')⟩
      have := he x (List.mem_cons_of_mem _ hx)
      cases x with
      | tmp u => simp only [St.ev, look]; split <;> first | rfl | exact this
      | _ => rfl
    · rename_i e
      obtain ⟨o, hk, ho⟩ := strip_sure h
      refine ⟨o, hk, fun s' he K' hk' => ?_⟩
      have e' : look s'.env t = look s.env t := he (.tmp t) List.mem_cons_self
      simp only [strip, e']
      exact ho s' (fun x hx => he x (List.mem_cons_of_mem _ hx)) K' hk'
  | .const _ :: r, s, K, h => let ⟨o, hk, ho⟩ := strip_sure (l := r) h; ⟨o, hk, fun s' he => ho s' fun x hx => he x (List.mem_cons_of_mem _ hx)⟩
  | .global _ :: r, s, K, h => let ⟨o, hk, ho⟩ := strip_sure (l := r) h; ⟨o, hk, fun s' he => ho s' fun x hx => he x (List.mem_cons_of_mem _ hx)⟩
  | .func _ :: r, s, K, h => let ⟨o, hk, ho⟩ := strip_sure (l := r) h; ⟨o, hk, fun s' he => ho s' fun x hx => he x (List.mem_cons_of_mem _ hx)⟩

theorem reads_sub {op : Op} {x : Operand} (h : x ∈ reads op) : x ∈ op.operands := by
  cases op
  case pick c a b => simp only [reads, List.mem_singleton] at h; simp [Op.operands, h]
  all_goals simpa [reads] using h

/-- What an operation looks at is the same. -/
structure Agree (all : List Oper) (q : Oper) (s s' : St) : Prop where
  n : s'.n = s.n
  ev : ∀ x ∈ q.op.operands, s'.ev x = s.ev x
  gd : ∀ j b d, q.guard = some (j, b) → (nth all j).bind (·.dst) = some d → look s'.env d = look s.env d

theorem wanted_of {ops : Array Oper} {q : Oper} {j d : Nat} {b g : Bool} {ρ : Ro} {s : St} {a : Act} {w : World} (hs : RelS ρ s a w) (hg : q.guard = some (j, b)) (hd : (nth ops.toList j).bind (·.dst) = some d)
    (h : gOf (std P n₀) b (look s.env d) = some g) : Region.wanted q (yielded ops a.tmps) = g := by
  obtain ⟨hy1, hy2⟩ := yield_of hs hd
  have hval := hs.vals d
  unfold gOf at h
  split at h
  · rename_i t e
    rw [e] at hval
    simp only [Option.some.injEq] at h
    subst h
    have hyt := hy1 t hval
    simp only [Region.wanted, hg, hyt]
    cases t <;> cases b <;> rfl
  · rename_i g' t e
    rw [e] at hval
    simp only [Option.some.injEq] at h
    subst h
    obtain ⟨hc1, hc2⟩ := val_cond hval
    cases g' with
    | true =>
      have hyt := hy1 t (hc1 rfl)
      simp only [Region.wanted, hg, hyt]
      cases t <;> cases b <;> rfl
    | false =>
      have hyn := hy2 (hc2 rfl)
      simp only [Region.wanted, hg, hyn]
      rfl
  · simp at h

end
end Go.Pt
