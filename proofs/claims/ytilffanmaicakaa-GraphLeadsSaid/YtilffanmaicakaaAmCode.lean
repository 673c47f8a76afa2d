/- What the abstract machine says of code holds of the model's runs of it. -/
import Derived.Test.YtilffanmaicakaaAmOps9
import Derived.Orders
namespace Go.Pt
open Go

section
variable {P : Program} {n₀ : Nat} {tab : Nat → Ty} {w : World} {ρ : Ro} {s : St} {a : Act} {Q : Exit → Act → World → Prop}

theorem RelS.cons (h : RelS ρ s a w) {t : Nat} {v : AV} (hv : Val w (Stay ρ s.hp) ρ s.hp.length v (a.tmps.getD t undef)) : RelS ρ ⟨(t, v) :: s.env, s.hp, s.n⟩ a w := by
  refine ⟨h.defers, h.size, h.rel, fun u => ?_⟩
  simp only [look]
  split
  · rename_i e
    rw [← Nat.eq_of_beq_eq_true e]; exact hv
  · exact h.vals u

theorem strip_sound {g : Bool} : ∀ {l : List Operand} {s : St} {K : St → Prop}, strip g l s K → ∃ s', K s' ∧ s'.hp = s.hp ∧ s'.n = s.n ∧ (g = true → RelS ρ s a w → RelS ρ s' a w)
  | [], s, K, h => ⟨s, h, rfl, rfl, fun _ h => h⟩
  | .tmp t :: r, s, K, h => by
    simp only [strip] at h
    split at h
    · rename_i g' v e
      obtain ⟨s', h1, h2, h3, h4⟩ := strip_sound h.2
      refine ⟨s', h1, h2, h3, fun hg hr => h4 hg (hr.cons ?_)⟩
      have := hr.vals t
      rw [e] at this
      exact (val_cond this).1 (h.1 hg)
    · exact strip_sound h
  | .const _ :: r, s, K, h => strip_sound (l := r) h
  | .global _ :: r, s, K, h => strip_sound (l := r) h
  | .func _ :: r, s, K, h => strip_sound (l := r) h

theorem put_rel (h : RelS ρ s a w) {d : Option Nat} (hf : fits d s.n = true) {v : AV} {u : Value} {ρ' : Ro} {σ' : List Ent} {w' : World} (hv : Val w' (Stay ρ' σ') ρ' σ'.length v u) (hst : Stp ρ s.hp w ρ' σ' w') (hr : Rel ρ' σ' w') :
    RelS ρ' (s.put d v σ') (a.put d u) w' := by
  have old : ∀ t, Val w' (Stay ρ' σ') ρ' σ'.length (look s.env t) (a.tmps.getD t undef) := fun t => (h.vals t).step hst
  have hdef : Marks ρ'.m w' a.defers := by rw [hst.rm]; exact h.defers.step h.rel hst
  cases d with
  | none => exact ⟨hdef, h.size, hr, old⟩
  | some d =>
    have hlt : d < a.tmps.size := by rw [h.size]; simpa [fits, Nat.blt_eq] using hf
    refine ⟨hdef, by simp [Act.put, St.put, h.size], hr, fun t => ?_⟩
    simp only [St.put, Act.put, look]
    split
    · rename_i e
      have := Nat.eq_of_beq_eq_true e; subst this
      simp [Array.getD, hlt]; exact hv
    · rename_i e
      have hne : d ≠ t := fun he => by subst he; simp at e
      have : (a.tmps.setIfInBounds d u).getD t undef = a.tmps.getD t undef := by
        simp [Array.getD_eq_getD_getElem?, Array.getElem?_setIfInBounds, hne]
      rw [this]; exact old t

theorem undef_val {S : Nat → Nat → Prop} {n : Nat} {v : AV} : Val w S ρ n (.cond false v) undef := ⟨1, by simp, fun _ => rfl⟩

theorem cond_val {S : Nat → Nat → Prop} {n : Nat} {g : Bool} {v : AV} {u : Value} (h : Val w S ρ n v u) (hg : g = true) : Val w S ρ n (.cond g v) u := by
  obtain ⟨d, h⟩ := h
  exact ⟨d + 1, fun _ => h, fun e => by rw [hg] at e; simp at e⟩

theorem quiet_some {op : Op} (hq : quietOp op = true) {s : St} {K E : AV → List Ent → Prop} {g : Bool} (h : aopG (std P n₀) tab g op s K E) : ∃ v, K v s.hp := by
  cases op <;> simp only [quietOp, Bool.false_eq_true] at hq <;> simp only [aopG, aop] at h
  case move => exact ⟨_, h⟩
  case assign => exact ⟨_, h⟩
  case load =>
    split at h
    · split at h
      · split at h
        · exact ⟨_, h⟩
        · exact h.elim
      · exact h.elim
    · split at h
      · exact ⟨_, h⟩
      · exact h.elim
    · rename_i i _ _
      split at h
      case h_2 => exact h.elim
      rename_i xs _
      split at h
      case h_2 => exact h.elim
      obtain ⟨hin, h⟩ := h
      have hin : 0 ≤ i ∧ i < (xs.length : Int) := hin
      have h := h _ (List.getElem?_eq_getElem (by omega))
      simp only at h
      split at h
      · exact ⟨_, h⟩
      · exact h.elim
    · exact h.elim
  case unOp =>
    repeat' (first | exact ⟨_, h⟩ | exact h.elim | split at h)
  case fieldAddr =>
    repeat' (first | exact ⟨_, h⟩ | exact h.elim | split at h)
  case field =>
    repeat' (first | exact ⟨_, h⟩ | exact h.elim | split at h)
  case extract =>
    repeat' (first | exact ⟨_, h⟩ | exact h.elim | split at h)
  case binOp p t x y t' =>
    replace h := binB_A h
    unfold binA at h
    have ar : ∀ {q : BinOp}, arA (std P n₀) q (s.ev x) (s.ev y) (fun v => K v s.hp) → ∃ v, K v s.hp := by
      intro q h
      unfold arA at h
      repeat' (first | exact ⟨_, h⟩ | exact ⟨_, h.2⟩ | exact h.elim | split at h)
    have cp : ∀ {q : BinOp}, cpA (std P n₀) q (s.ev x) (s.ev y) (fun v => K v s.hp) → ∃ v, K v s.hp := by
      intro q h
      unfold cpA at h
      repeat' (first | exact ⟨_, h⟩ | exact h.elim | split at h)
    have eq : ∀ {n : Bool}, eqA (std P n₀) (tab t) n (s.ev x) (s.ev y) (fun v => K v s.hp) → ∃ v, K v s.hp := by
      intro n h
      unfold eqA at h
      repeat' (first | exact ⟨_, h⟩ | exact ⟨_, h.2 n (fun _ => rfl)⟩ | exact h.elim | split at h)
    cases p <;> simp only [Bool.false_eq_true] at hq h <;> first | exact ar h | exact cp h | exact eq h
  case pick =>
    have u : ∀ {g : Bool} {a : AV} {K : AV → Prop}, under g a K → ∃ v, K v := by
      intro g a K h
      unfold under at h
      split at h
      · exact ⟨_, h.2⟩
      · exact ⟨_, h⟩
    split at h
    · exact u h
    · exact u h
    · obtain ⟨_, h⟩ := u h
      obtain ⟨_, h⟩ := u h
      repeat' (first | exact ⟨_, h⟩ | exact h.elim | split at h)
    · exact h.elim

theorem aopG_aop {op : Op} {s : St} {K E : AV → List Ent → Prop} {g : Bool} (h : aopG (std P n₀) tab g op s K E) (hg : g = true) : aop (std P n₀) tab op s K E := by
  subst hg
  cases op <;> exact h

theorem yield_of {ops : Array Oper} {s : St} (hs : RelS ρ s a w) {j d : Nat} (hd : (nth ops.toList j).bind (·.dst) = some d) :
    (∀ t : Bool, Val w (Stay ρ s.hp) ρ s.hp.length (.bool t) (a.tmps.getD d undef) → yielded ops a.tmps j = some t) ∧ (a.tmps.getD d undef = undef → yielded ops a.tmps j = none) := by
  have hdst : (ops[j]?).bind (·.dst) = some d := by rw [nth_eq] at hd; simpa using hd
  constructor
  · intro t ht
    have hv := val_bool ht
    unfold yielded
    rw [hdst]
    have : a.tmps[d]? = some (.bool t) := by
      rw [Array.getD_eq_getD_getElem?] at hv
      cases he : a.tmps[d]? with
      | none => rw [he] at hv; simp [undef] at hv
      | some x => rw [he] at hv; simp at hv; rw [hv]
    simp [this]
  · intro hv
    unfold yielded
    rw [hdst]
    rw [Array.getD_eq_getD_getElem?] at hv
    cases he : a.tmps[d]? with
    | none => simp [he]
    | some x => rw [he] at hv; simp at hv; subst hv; simp [he, undef]

/-- What is to come behind the operations that are left. -/
structure Ends (ρ : Ro) (s : St) (a : Act) (w : World) (K : St → Prop) (E : AV → List Ent → Prop) (Q : Exit → Act → World → Prop) : Prop where
  fin : ∀ s' ρ' a' w', K s' → s'.n = s.n → RelS ρ' s' a' w' → Stp ρ s.hp w ρ' s'.hp w' → Q .normal a' w'
  die : ∀ x v ρ' σ' w' a', E x σ' → Val w' (Stay ρ' σ') ρ' σ'.length x v → Stp ρ s.hp w ρ' σ' w' → Rel ρ' σ' w' → a'.tmps.size = s.n → Marks ρ'.m w' a'.defers → Q (.panic [{ v, recovered := false }]) a' w'

theorem Ends.next {K : St → Prop} {E : AV → List Ent → Prop} (h : Ends ρ s a w K E Q) {ρ' : Ro} {s' : St} {a' : Act} {w' : World} (hn : s'.n = s.n) (hst : Stp ρ s.hp w ρ' s'.hp w') : Ends ρ' s' a' w' K E Q :=
  ⟨fun s'' ρ'' a'' w'' hk hn' hr hst' => h.fin s'' ρ'' a'' w'' hk (hn'.trans hn) hr (StpN.trans' hst hst'),
   fun x v ρ'' σ'' w'' a'' he hv hst' hr hsz hdf => h.die x v ρ'' σ'' w'' a'' he hv (StpN.trans' hst hst') hr (hsz.trans hn) hdf⟩

/-- One operation. -/
theorem aops_step {rd : Option Nat} (ht : TabOk P tab) {ops : Array Oper} {q : Oper} {r : List Oper} {i : Nat} (hq : ops[i]? = some q) {K : St → Prop} {E : AV → List Ent → Prop} {next : Act → World → Prop} (h : aops (std P n₀) tab ops.toList (q :: r) s K E) (hs : RelS ρ s a w)
    (hnext : ∀ s' ρ' a' w', aops (std P n₀) tab ops.toList r s' K E → s'.n = s.n → RelS ρ' s' a' w' → Stp ρ s.hp w ρ' s'.hp w' → next a' w')
    (hdie : ∀ x v ρ' σ' w', E x σ' → Val w' (Stay ρ' σ') ρ' σ'.length x v → Stp ρ s.hp w ρ' σ' w' → Rel ρ' σ' w' → Q (.panic [{ v, recovered := false }]) a w') : wpOpIn (fen rd) 0 P ops Q i next a w := by
    unfold wpOpIn
    simp only [hq]
    -- the operation is done
    have doit : ∀ {s1 : St} {d' : List (Nat × AV)}, s1.hp = s.hp → s1.n = s.n → RelS ρ s1 a w → RelS ρ ⟨d', s.hp, s.n⟩ a w → fits q.dst s.n = true →
        ∀ {f : AV → AV}, (∀ {n : Nat} {S : Nat → Nat → Prop} {ρ' : Ro} {w' : World} {v : AV} {u : Value}, Val w' S ρ' n v u → Val w' S ρ' n (f v) u) →
        aop (std P n₀) tab q.op s1 (fun v h => aops (std P n₀) tab ops.toList r (St.put ⟨d', s.hp, s.n⟩ q.dst (f v) h) K E) E → q.wpIn (fen rd) 0 P a w next Q := by
      intro s1 d' h1 h2 hr1 hr2 hf f hfv ha
      refine aop_sound ht hr1 ha ⟨fun v u ρ' σ' w' hk hv hst hr => ?_⟩ ⟨fun x v ρ' σ' w' hx hv hst hr => ?_⟩
      · rw [h1] at hst
        have hp := put_rel hr2 (d := q.dst) (by exact hf) (hfv hv) hst hr
        exact hnext _ _ _ _ hk (by cases q.dst <;> rfl) hp (by cases hq : q.dst <;> exact hst)
      · rw [h1] at hst
        exact hdie x v ρ' σ' w' hx hv hst hr
    -- it is passed over
    have skip : ∀ {d' : List (Nat × AV)} {v : AV}, RelS ρ ⟨d', s.hp, s.n⟩ a w → fits q.dst s.n = true → Val w (Stay ρ s.hp) ρ s.hp.length v undef →
        aops (std P n₀) tab ops.toList r (St.put ⟨d', s.hp, s.n⟩ q.dst v s.hp) K E → next (a.put q.dst undef) w := by
      intro d' v hr2 hf hv ha
      have hp := put_rel hr2 (d := q.dst) (by exact hf) hv (Stp.refl _ _ _) hs.rel
      exact hnext _ _ _ _ ha (by cases q.dst <;> rfl) hp (by cases hq : q.dst <;> exact Stp.refl _ _ _)
    have hme : RelS ρ ⟨s.env, s.hp, s.n⟩ a w := hs
    simp only [aops] at h
    split at h
    · exact h.elim
    rename_i hf
    split at h
    · -- no guard
      rename_i hg
      have hw : Region.wanted q (yielded ops a.tmps) = true := by simp [Region.wanted, hg]
      rw [if_pos hw]
      obtain ⟨s', h1, h2, h3, h4⟩ := strip_sound h
      exact doit h2 h3 (h4 rfl hs) hme hf (f := id) (fun h => h) h1
    · rename_i j b hg
      split at h
      · exact h.elim
      rename_i d hd
      obtain ⟨hy1, hy2⟩ := yield_of hs hd
      have want : ∀ {t : Bool}, yielded ops a.tmps j = some t → Region.wanted q (yielded ops a.tmps) = (t == b) := by
        intro t e; simp [Region.wanted, hg, e]
      have wantN : yielded ops a.tmps j = none → Region.wanted q (yielded ops a.tmps) = false := by
        intro e; simp [Region.wanted, hg, e]
      have hval := hs.vals d
      have plain : strip true (reads q.op) s (fun s' => aop (std P n₀) tab q.op s' (fun v h => aops (std P n₀) tab ops.toList r (s.put q.dst v h) K E) E) → q.wpIn (fen rd) 0 P a w next Q := by
        intro h
        obtain ⟨s', h1, h2, h3, h4⟩ := strip_sound h
        exact doit h2 h3 (h4 rfl hs) hme hf (f := id) (fun h => h) h1
      split at h
      · -- the guard is written out
        rename_i t e
        rw [e] at hval
        have hyt := hy1 t (by rw [val_bl hval]; exact ⟨1, rfl⟩)
        split at h
        · rw [if_pos (by rw [want hyt]; rfl)]; exact plain h
        · rw [if_pos (by rw [want hyt]; rfl)]; exact plain h
        · rename_i h1 h2
          have : (t == b) = false := by cases t <;> cases b <;> simp_all
          rw [if_neg (by rw [want hyt, this]; simp)]
          exact ⟨fun _ _ => trivial, skip hme hf Val.junk h⟩
      · -- a guard that is not decided
        rename_i t e
        rw [e] at hval
        have hyt := hy1 t hval
        have hgd : gd (std P n₀) t b = (t == b) := by cases t <;> cases b <;> rfl
        split at h
        · rename_i hquiet
          obtain ⟨s', h1, h2, h3, h4⟩ := strip_sound h
          by_cases hg' : (t == b) = true
          · rw [if_pos (by rw [want hyt]; exact hg')]
            refine doit h2 h3 (h4 (by rw [hgd]; exact hg') hs) hme hf (f := fun v => .cond (gd (std P n₀) t b) v) (fun hv => cond_val hv (by rw [hgd]; exact hg')) (aopG_aop h1 (by rw [hgd]; exact hg'))
          · rw [if_neg (by rw [want hyt]; exact hg')]
            obtain ⟨v, hk⟩ := quiet_some hquiet h1
            rw [h2] at hk
            refine ⟨fun _ _ => trivial, skip hme hf (v := .cond (gd (std P n₀) t b) v) ?_ hk⟩
            have : gd (std P n₀) t b = false := by rw [hgd]; simpa using hg'
            rw [this]; exact undef_val
        · obtain ⟨ha, hb⟩ := h
          by_cases hg' : t = b
          · rw [if_pos (by rw [want hyt]; simpa using hg')]
            obtain ⟨s', h1, h2, h3, h4⟩ := strip_sound (ha hg')
            refine doit h2 h3 (h4 rfl hs) (hs.cons (v := .bl b) ?_) hf (f := id) (fun h => h) h1
            rw [← hg', val_bool hval]; exact ⟨1, rfl⟩
          · rw [if_neg (by rw [want hyt]; simpa using hg')]
            have hg'' : t = !b := by cases t <;> cases b <;> simp_all
            refine ⟨fun _ _ => trivial, skip (hs.cons (v := .bl (!b)) ?_) hf Val.junk (hb hg'')⟩
            rw [← hg'', val_bool hval]; exact ⟨1, rfl⟩
      · -- a guard under another one
        rename_i g t e
        rw [e] at hval
        obtain ⟨hc1, hc2⟩ := val_cond hval
        have hgd : (std P n₀).o.band g (gd (std P n₀) t b) = (g && (t == b)) := by cases t <;> cases b <;> rfl
        split at h
        · rename_i hquiet
          obtain ⟨s', h1, h2, h3, h4⟩ := strip_sound h
          by_cases hgg : g = true
          · have hyt := hy1 t (hc1 hgg)
            by_cases hg' : (t == b) = true
            · rw [if_pos (by rw [want hyt]; exact hg')]
              have hall : (std P n₀).o.band g (gd (std P n₀) t b) = true := by rw [hgd, hgg, hg']; rfl
              refine doit h2 h3 (h4 hall hs) hme hf (f := fun v => .cond ((std P n₀).o.band g (gd (std P n₀) t b)) v) (fun hv => cond_val hv hall) (aopG_aop h1 hall)
            · rw [if_neg (by rw [want hyt]; exact hg')]
              obtain ⟨v, hk⟩ := quiet_some hquiet h1
              rw [h2] at hk
              refine ⟨fun _ _ => trivial, skip hme hf (v := .cond ((std P n₀).o.band g (gd (std P n₀) t b)) v) ?_ hk⟩
              have : (std P n₀).o.band g (gd (std P n₀) t b) = false := by rw [hgd]; simp at hg'; simp [hg']
              rw [this]; exact undef_val
          · have hgf : g = false := by simpa using hgg
            rw [if_neg (by rw [wantN (hy2 (hc2 hgf))]; simp)]
            obtain ⟨v, hk⟩ := quiet_some hquiet h1
            rw [h2] at hk
            refine ⟨fun _ _ => trivial, skip hme hf (v := .cond ((std P n₀).o.band g (gd (std P n₀) t b)) v) ?_ hk⟩
            have : (std P n₀).o.band g (gd (std P n₀) t b) = false := by rw [hgd, hgf]; rfl
            rw [this]; exact undef_val
        · obtain ⟨ha, hb⟩ := h
          by_cases hgg : g = true
          · have hyt := hy1 t (hc1 hgg)
            by_cases hg' : t = b
            · rw [if_pos (by rw [want hyt]; simpa using hg')]
              obtain ⟨s', h1, h2, h3, h4⟩ := strip_sound (ha hgg hg')
              refine doit h2 h3 (h4 rfl hs) (hs.cons (v := .bl b) ?_) hf (f := id) (fun h => h) h1
              rw [← hg', val_bool (hc1 hgg)]; exact ⟨1, rfl⟩
            · rw [if_neg (by rw [want hyt]; simpa using hg')]
              have hg'' : t = !b := by cases t <;> cases b <;> simp_all
              refine ⟨fun _ _ => trivial, skip (hs.cons (v := .cond g (.bl (!b))) ?_) hf Val.junk (hb (fun _ => hg''))⟩
              refine cond_val ?_ hgg
              rw [← hg'', val_bool (hc1 hgg)]; exact ⟨1, rfl⟩
          · have hgf : g = false := by simpa using hgg
            rw [if_neg (by rw [wantN (hy2 (hc2 hgf))]; simp)]
            refine ⟨fun _ _ => trivial, skip (hs.cons (v := .cond g (.bl (!b))) ?_) hf Val.junk (hb (fun e => by rw [hgf] at e; simp at e))⟩
            rw [hc2 hgf, hgf]; exact undef_val
      · -- a guard under another one that is written out
        rename_i g t e
        rw [e] at hval
        obtain ⟨hc1, hc2⟩ := val_cond hval
        have hbb : ∀ {S : Nat → Nat → Prop} {n : Nat} {w : World} {v : Value}, Val w S ρ n (.bl t) v → Val w S ρ n (.bool t) v := fun h => by rw [val_bl h]; exact ⟨1, rfl⟩
        split at h
        · rename_i hne
          have hne' : (t == b) = false := by cases t <;> cases b <;> simp_all [same2]
          by_cases hgg : g = true
          · rw [if_neg (by rw [want (hy1 t (hbb (hc1 hgg))), hne']; simp)]
            exact ⟨fun _ _ => trivial, skip hme hf Val.junk h⟩
          · have hgf : g = false := by simpa using hgg
            rw [if_neg (by rw [wantN (hy2 (hc2 hgf))]; simp)]
            exact ⟨fun _ _ => trivial, skip hme hf Val.junk h⟩
        · rename_i hne
          have htb : t = b := by cases t <;> cases b <;> simp_all [same2]
          subst htb
          split at h
          · rename_i hquiet
            obtain ⟨s', h1, h2, h3, h4⟩ := strip_sound h
            by_cases hgg : g = true
            · rw [if_pos (by rw [want (hy1 t (hbb (hc1 hgg)))]; simp)]
              exact doit h2 h3 (h4 hgg hs) hme hf (f := fun v => .cond g v) (fun hv => cond_val hv hgg) (aopG_aop h1 hgg)
            · have hgf : g = false := by simpa using hgg
              rw [if_neg (by rw [wantN (hy2 (hc2 hgf))]; simp)]
              obtain ⟨v, hk⟩ := quiet_some hquiet h1
              rw [h2] at hk
              refine ⟨fun _ _ => trivial, skip hme hf (v := .cond g v) ?_ hk⟩
              rw [hgf]; exact undef_val
          · obtain ⟨ha, hb⟩ := h
            by_cases hgg : g = true
            · rw [if_pos (by rw [want (hy1 t (hbb (hc1 hgg)))]; simp)]
              obtain ⟨s', h1, h2, h3, h4⟩ := strip_sound (ha hgg)
              exact doit h2 h3 (h4 rfl hs) (hs.cons (v := .bl t) (hc1 hgg)) hf (f := id) (fun h => h) h1
            · have hgf : g = false := by simpa using hgg
              rw [if_neg (by rw [wantN (hy2 (hc2 hgf))]; simp)]
              refine ⟨fun _ _ => trivial, skip (hs.cons (v := .cond false (.bl (!t))) ?_) hf Val.junk (hb hgf)⟩
              rw [hc2 hgf]; exact undef_val
      · exact h.elim

theorem aops_sound {rd : Option Nat} (ht : TabOk P tab) {ops : Array Oper} : ∀ (r : List Oper) (i : Nat) {s : St} {a : Act} {w : World} {ρ : Ro} {K : St → Prop} {E : AV → List Ent → Prop}, ops.toList.drop i = r → aops (std P n₀) tab ops.toList r s K E → RelS ρ s a w →
    Ends ρ s a w K E Q → wpOpsIn (fen rd) 0 P ops Q (List.range' i r.length) a w := by
  intro r
  induction r with
  | nil => intro i s a w ρ K E _ h hs he; exact he.fin s ρ a w h rfl hs (Stp.refl _ _ _)
  | cons q r ih =>
    intro i s a w ρ K E hi h hs he
    have hq : ops[i]? = some q := by
      have : (ops.toList.drop i)[0]? = some q := by rw [hi]; rfl
      simpa using this
    have hi' : ops.toList.drop (i + 1) = r := by
      rw [← List.drop_drop, hi]; rfl
    rw [List.length_cons, List.range'_succ, wpOpsIn_cons]
    exact aops_step ht hq h hs (fun s' ρ' a' w' hk hn hr hst => ih (i + 1) hi' hk hr (he.next hn hst)) (fun x v ρ' σ' w' hx hv hst hr => he.die x v ρ' σ' w' a hx hv hst hr hs.size (by rw [hst.rm]; exact hs.defers.step hs.rel hst))

end
end Go.Pt
