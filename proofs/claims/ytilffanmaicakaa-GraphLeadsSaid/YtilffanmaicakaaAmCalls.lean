/- The rules of calls: out of a body; with a part of the caller's heap. -/
import Derived.Test.YtilffanmaicakaaAmRules
namespace Go.Pt
open Go

section
variable {P : Program} {n₀ : Nat} {tab : Nat → Ty} {w : World} {ρ : Ro}

theorem idx_some : ∀ {l : List Nat} {i j : Nat}, idx l i = some j → l[j]? = some i
  | [], _, _, h => by simp [idx] at h
  | x :: l, i, j, h => by
    simp only [idx] at h
    split at h
    · rename_i e
      simp only [Option.some.injEq] at h; subst h
      simp [Nat.eq_of_beq_eq_true e]
    · split at h
      · rename_i k hk
        simp only [Option.some.injEq] at h; subst h
        simpa using idx_some hk
      · simp at h

theorem idx_none : ∀ {l : List Nat} {i : Nat}, idx l i = none → i ∉ l
  | [], _, _ => by simp
  | x :: l, i, h => by
    simp only [idx] at h
    split at h
    · simp at h
    · rename_i e
      split at h
      · simp at h
      · rename_i hk
        have := idx_none hk
        simp only [List.mem_cons, not_or]
        exact ⟨fun he => by subst he; simp at e, this⟩

structure RenOk (g : Nat → Option Nat) (ρ ρ' : Ro) (n n' : Nat) : Prop where
  lt : ∀ i j, i < n → g i = some j → j < n'
  b : ∀ i j, i < n → g i = some j → ρ'.b j = ρ.b i
  t : ∀ i j, i < n → g i = some j → ρ'.t j = ρ.t i

theorem ren_val {S S' : Nat → Nat → Prop} {ρ' : Ro} {n n' : Nat} {g : Nat → Option Nat} (hg : RenOk g ρ ρ' n n') (hS : ∀ b o u, S b o → cellAt w b o = some u → S' b o) : ∀ (k : Nat) {d : Nat} {a : AV} {v : Value}, Cz w S ρ d n a v → Val w S' ρ' n' (ren g k a) v
  | 0, _, _, _, _ => Val.junk
  | k + 1, 0, _, _, h => h.elim
  | k + 1, d + 1, a, v, h => by
    have all : ∀ {cs : List AV} {vs : List Value}, All2 (Cz w S ρ d n) cs vs → All2 (Val w S' ρ' n') (cs.map (ren g k)) vs := by
      intro cs
      induction cs with
      | nil => intro vs h; cases vs <;> simp [All2] at h ⊢
      | cons c cs ih => intro vs h; cases vs with
        | nil => exact h.elim
        | cons v vs => exact ⟨ren_val hg hS k h.1, ih h.2⟩
    have kz : Keeps w w S S' ρ ρ' 0 0 := ⟨fun b o u h1 h2 => ⟨hS b o u h1 h2, h2⟩, Nat.le_refl _, fun i hi => by omega, fun i hi => by omega⟩
    cases a with
    | agg cs => obtain ⟨vs, e, h⟩ := h; obtain ⟨d', h'⟩ := all2_depth (all h); exact ⟨d' + 1, vs, e, h'⟩
    | tup cs => obtain ⟨vs, e, h⟩ := h; obtain ⟨d', h'⟩ := all2_depth (all h); exact ⟨d' + 1, vs, e, h'⟩
    | func f cs => obtain ⟨vs, e, h⟩ := h; obtain ⟨d', h'⟩ := all2_depth (all h); exact ⟨d' + 1, vs, e, h'⟩
    | iface t x => obtain ⟨u, e, h⟩ := h; obtain ⟨d', h'⟩ := ren_val hg hS k h; exact ⟨d' + 1, u, e, h'⟩
    | sl s xs t =>
      obtain ⟨ad, len, cap, e, h1, h2, h3, h4⟩ := h
      refine ⟨d + 1, ad, len, cap, e, h1, h2, ?_, fun hx => ?_⟩
      · cases t with
        | no => trivial
        | full => exact h3
        | tip i p =>
          simp only [renT]
          split
          · rename_i j hj
            exact ⟨hg.lt i j h3.1 hj, by rw [hg.t i j h3.1 hj]; exact h3.2⟩
          · trivial
      · obtain ⟨b, o, e, h⟩ := h4 hx
        exact ⟨b, o, e, fun i x hi => let ⟨vs, a1, a2, a3⟩ := h i x hi; ⟨vs, a1.imp (Cz.keep d kz), a2, a3.keep kz.rd⟩⟩
    | cptr cs o => obtain ⟨b, o', vs, e, h1, h2⟩ := h; exact ⟨d + 1, b, o', vs, e, h1.imp (Cz.keep d kz), h2.keep kz.rd⟩
    | ms i o s l =>
      simp only [ren]
      split
      · rename_i j hj
        exact ⟨1, hg.lt i j h.1 hj, by rw [hg.b i j h.1 hj]; exact h.2⟩
      · exact Val.junk
    | vs i s lo k N =>
      simp only [ren]
      split
      · rename_i j hj
        exact ⟨1, hg.lt i j h.1 hj, by rw [hg.t i j h.1 hj]; exact h.2⟩
      · exact Val.junk
    | vp i s k o =>
      simp only [ren]
      split
      · rename_i j hj
        exact ⟨1, hg.lt i j h.1 hj, by rw [hg.t i j h.1 hj]; exact h.2⟩
      · exact Val.junk
    | ptr i o =>
      simp only [ren]
      split
      · rename_i j hj
        exact ⟨1, hg.lt i j h.1 hj, by rw [hg.b i j h.1 hj]; exact h.2⟩
      · exact Val.junk
    | mp i =>
      simp only [ren]
      split
      · rename_i j hj
        exact ⟨1, hg.lt i j h.1 hj, by rw [hg.b i j h.1 hj]; exact h.2⟩
      · exact Val.junk
    | yld i =>
      simp only [ren]
      split
      · rename_i j hj
        exact ⟨1, hg.lt i j h.1 hj, by rw [hg.b i j h.1 hj]; exact h.2⟩
      · exact Val.junk
    | cond g x => exact Val.junk
    | _ => exact ⟨d + 1, h⟩

theorem ren_vals {S S' : Nat → Nat → Prop} {ρ' : Ro} {n n' : Nat} {g : Nat → Option Nat} (hg : RenOk g ρ ρ' n n') (hS : ∀ b o u, S b o → cellAt w b o = some u → S' b o) (k : Nat) : ∀ {cs : List AV} {vs : List Value}, All2 (Val w S ρ n) cs vs → All2 (Val w S' ρ' n') (cs.map (ren g k)) vs
  | [], [], _ => trivial
  | _ :: _, _ :: _, h => ⟨ren_val hg hS k h.1.choose_spec, ren_vals hg hS k h.2⟩
  | [], _ :: _, h => h.elim
  | _ :: _, [], h => h.elim

theorem look_ren {g : Nat → Option Nat} {t : Nat} : ∀ (env : List (Nat × AV)), look (env.map fun x => (x.1, ren g 6 x.2)) t = ren g 6 (look env t)
  | [] => rfl
  | (k, v) :: env => by
    simp only [List.map_cons, look]
    split
    · rfl
    · exact look_ren env

theorem renE_ok {S S' : Nat → Nat → Prop} {ρ' : Ro} {n n' i j : Nat} {g : Nat → Option Nat} (hg : RenOk g ρ ρ' n n') (hS : ∀ b o u, S b o → cellAt w b o = some u → S' b o) {e : Ent} (h : EntOk w S ρ n i e) (hb : ρ'.b j = ρ.b i) (ht : ρ'.t j = ρ.t i) :
    EntOk w S' ρ' n' j (renE g e) := by
  cases e with
  | var cs => obtain ⟨vs, ty, h1, h2⟩ := h; exact ⟨vs, ty, ren_vals hg hS 6 h1, by rw [hb]; exact h2⟩
  | tip p => simp only [renE, EntOk, ht]; exact h
  | vec s xs =>
    have kz : Keeps w w S S' ρ ρ' 0 0 := ⟨fun b o u h1 h2 => ⟨hS b o u h1 h2, h2⟩, Nat.le_refl _, fun i hi => by omega, fun i hi => by omega⟩
    simp only [renE, EntOk, ht]
    obtain ⟨q1, q2, q3, q4⟩ := h
    exact ⟨q1, q2, q3, fun k x hx => let ⟨vs, a1, a2, a3⟩ := q4 k x hx; ⟨vs, a1.imp fun _ _ h => h.keep kz, a2, a3⟩⟩
  | mp es =>
    obtain ⟨ms, c, h1, h2, h3⟩ := h
    refine ⟨ms, c, by rw [hb]; exact h1, ?_, h3⟩
    clear h1 h3
    revert ms
    induction es with
    | nil => intro ms h; cases ms <;> simp [All2] at h ⊢
    | cons x es ih => intro ms h; cases ms with
      | nil => exact h.elim
      | cons m ms => exact ⟨⟨ren_val hg hS 6 h.1.1.choose_spec, ren_val hg hS 6 h.1.2.choose_spec⟩, ih ms h.2⟩
  | lp ps asg body env k st pe =>
    obtain ⟨r, g1, g2, g3, g4, g5, g6, g7, g8⟩ := h
    exact ⟨r, by rw [hb]; exact g1, g2, g3, g4, g5, g6, g7, fun u => by rw [look_ren]; exact ren_val hg hS 6 (g8 u).choose_spec⟩
  | dead => trivial

theorem renE_own {ρ' : Ro} {i j b o : Nat} {g : Nat → Option Nat} {e : Ent} (hb : ρ'.b j = ρ.b i) (ht : ρ'.t j = ρ.t i) : OwnE ρ' j b o (renE g e) ↔ OwnE ρ i b o e := by
  cases e <;> simp [renE, OwnE, hb, ht]

def Ro.pack (ρ : Ro) (l : List Nat) (x : Nat → Nat → Prop) (m : Nat) : Ro := ⟨fun j => ρ.b (l.getD j 0), fun j => ρ.t (l.getD j 0), x, m⟩

theorem pack_get {l : List Nat} {σ : List Ent} {j : Nat} {e : Ent} (h : (pack l σ)[j]? = some e) : ∃ i, l[j]? = some i ∧ e = renE (idx l) (entOr σ[i]?) := by
  simp only [pack, List.getElem?_map, Option.map_eq_some_iff] at h
  obtain ⟨i, hi, rfl⟩ := h
  exact ⟨i, hi, by rw [nth_eq]⟩

theorem pack_len {l : List Nat} {σ : List Ent} : (pack l σ).length = l.length := by simp [pack]

theorem pack_own {l : List Nat} {σ : List Ent} {x : Nat → Nat → Prop} {m b o : Nat} (h : Own (ρ.pack l x m) (pack l σ) b o) : ∃ i e, i ∈ l ∧ σ[i]? = some e ∧ OwnE ρ i b o e := by
  obtain ⟨j, e, hj, ho⟩ := h
  obtain ⟨i, hi, rfl⟩ := pack_get hj
  rw [renE_own (ρ := ρ) (i := i) (by simp [Ro.pack, List.getD, hi]) (by simp [Ro.pack, List.getD, hi])] at ho
  cases he : σ[i]? with
  | none => rw [he] at ho; exact ho.elim
  | some e => rw [he] at ho; exact ⟨i, e, List.mem_of_getElem? hi, he, ho⟩

theorem pack_ren {l : List Nat} {n m : Nat} {x : Nat → Nat → Prop} : RenOk (idx l) ρ (ρ.pack l x m) n l.length where
  lt i j _ h := lt_of_get (idx_some h)
  b i j _ h := by simp [Ro.pack, List.getD, idx_some h]
  t i j _ h := by simp [Ro.pack, List.getD, idx_some h]

/-- The heap's places l, alone; x: what is somebody else's then. -/
theorem rel_pack {σ : List Ent} (h : Rel ρ σ w) {l : List Nat} (hl : l.Nodup) {x : Nat → Nat → Prop} (m : Nat) (hx : ∀ b o, x b o → ρ.x b o ∨ ∃ i e, i ∉ l ∧ σ[i]? = some e ∧ OwnE ρ i b o e) :
    Rel (ρ.pack l x m) (pack l σ) w ∧ ∀ b o, Stay ρ σ b o → Stay (ρ.pack l x m) (pack l σ) b o := by
  have hS : ∀ b o, Stay ρ σ b o → Stay (ρ.pack l x m) (pack l σ) b o := by
    intro b o hs
    refine ⟨fun ho => ?_, fun hxx => ?_⟩
    · obtain ⟨i, e, _, he, ho⟩ := pack_own ho
      exact hs.1 ⟨i, e, he, ho⟩
    · rcases hx b o hxx with h1 | ⟨i, e, _, he, ho⟩
      · exact hs.2 h1
      · exact hs.1 ⟨i, e, he, ho⟩
  refine ⟨⟨fun j e hj => ?_, fun j j' e f b o hj hj' he hf => ?_, fun b o hxx => ?_, fun b o ho hxx => ?_⟩, hS⟩
  · obtain ⟨i, hi, rfl⟩ := pack_get hj
    cases he : σ[i]? with
    | none => simp [entOr, renE, EntOk]
    | some e =>
      rw [pack_len]
      exact renE_ok pack_ren (fun b o u h _ => hS b o h) (h.ents i e he) (by simp [Ro.pack, List.getD, hi]) (by simp [Ro.pack, List.getD, hi])
  · obtain ⟨i, hi, rfl⟩ := pack_get hj
    obtain ⟨i', hi', rfl⟩ := pack_get hj'
    rw [renE_own (ρ := ρ) (i := i) (by simp [Ro.pack, List.getD, hi]) (by simp [Ro.pack, List.getD, hi])] at he
    rw [renE_own (ρ := ρ) (i := i') (by simp [Ro.pack, List.getD, hi']) (by simp [Ro.pack, List.getD, hi'])] at hf
    cases h1 : σ[i]? with
    | none => rw [h1] at he; exact he.elim
    | some e1 =>
      cases h2 : σ[i']? with
      | none => rw [h2] at hf; exact hf.elim
      | some e2 =>
        rw [h1] at he; rw [h2] at hf
        have := h.disj i i' e1 e2 b o h1 h2 he hf
        subst this
        exact (List.getElem?_inj (lt_of_get hi) hl).1 (by rw [hi, hi'])
  · rcases hx b o hxx with h1 | ⟨i, e, _, he, ho⟩
    · exact h.xlt b o h1
    · have := h.ents i e he
      cases e with
      | var cs => obtain ⟨vs, e, _, h2⟩ := this; simp only [OwnE] at ho; subst ho; exact lt_of_heap h2
      | mp es => obtain ⟨ms, c, h1, _⟩ := this; simp only [OwnE] at ho; subst ho; exact lt_of_heap h1
      | lp ps asg body env k st pe => obtain ⟨r, h1, _⟩ := this; simp only [OwnE] at ho; subst ho; exact lt_of_heap h1
      | tip pos => obtain ⟨_, _, h3⟩ := this; obtain ⟨rfl, h4, h5⟩ := ho; obtain ⟨c, e, f, g1, _⟩ := h3 (by omega); exact lt_of_heap g1
      | vec s xs => obtain ⟨_, _, h3, _⟩ := this; obtain ⟨rfl, h4, h5⟩ := ho; obtain ⟨c, e, f, g1, _⟩ := h3 (by omega); exact lt_of_heap g1
      | dead => exact ho.elim
  · obtain ⟨i, e, hil, he, ho⟩ := pack_own ho
    rcases hx b o hxx with h1 | ⟨i', e', hil', he', ho'⟩
    · exact h.xown b o ⟨i, e, he, ho⟩ h1
    · have := h.disj i i' e e' b o he he' ho ho'
      subst this; exact hil' hil

theorem rangeN_eq : ∀ n, rangeN n = List.range n
  | 0 => rfl
  | n + 1 => by rw [rangeN, snoc_eq, rangeN_eq n, List.range_succ]

theorem argEnv_look : ∀ (l : List AV) (i t : Nat), look (argEnv i l) t = if i ≤ t then (l[t - i]?).getD .junk else .junk
  | [], i, t => by simp [argEnv, look]
  | a :: l, i, t => by
    simp only [argEnv, look]
    split
    · rename_i h
      have := Nat.eq_of_beq_eq_true h; subst this
      simp
    · rename_i h
      have hne : i ≠ t := fun e => by subst e; simp at h
      rw [argEnv_look l (i + 1) t]
      by_cases hle : i + 1 ≤ t
      · rw [if_pos hle, if_pos (by omega), show t - i = (t - (i + 1)) + 1 by omega]; simp
      · rw [if_neg hle, if_neg (by omega)]

theorem res_sound (ht : TabOk P tab) {s : St} {a : Act} (hs : RelS ρ s a w) : ∀ {rs : List ResultVar} {vs : List AV}, resAll tab s rs = some vs →
    ∃ us, (rs.mapM (fun | .tmp t => pure (a.tmps.getD t undef) | .cell b t => do loadVar t (← asAddr (a.tmps.getD b undef)) : ResultVar → Sem Value)).run P w = .ok us w ∧ All2 (Val w (Stay ρ s.hp) ρ s.hp.length) vs us
  | [], vs, h => by simp [resAll] at h; subst h; exact ⟨[], by simp, trivial⟩
  | r :: rs, vs, h => by
    simp only [resAll] at h
    split at h
    · simp at h
    · rename_i v hv
      split at h
      · simp at h
      · rename_i vs' hvs
        simp only [Option.some.injEq] at h; subst h
        obtain ⟨us, h1, h2⟩ := res_sound ht hs hvs
        have one : ∃ u, ((match r with | .tmp t => pure (a.tmps.getD t undef) | .cell b t => do loadVar t (← asAddr (a.tmps.getD b undef)) : Sem Value)).run P w = .ok u w ∧ Val w (Stay ρ s.hp) ρ s.hp.length v u := by
          cases r with
          | tmp t => simp only [resOne, Option.some.injEq] at hv; subst hv; exact ⟨_, rfl, hs.vals t⟩
          | cell b t =>
            simp only [resOne] at hv
            split at hv
            case h_2 => simp at hv
            rename_i id off e
            have hp := hs.vals b
            rw [e] at hp
            obtain ⟨_, hpv⟩ := val_ptr hp
            rw [nth_eq] at hv
            split at hv
            case h_2 => simp at hv
            rename_i cs hcs
            obtain ⟨vs, ty, h1, h2⟩ := hs.rel.ents id _ hcs
            have hok : (tab t).ok = true := by unfold rd at hv; split at hv <;> simp_all
            obtain ⟨i, d, z, hty⟩ := ht.ok hok
            obtain ⟨u, g1, g2⟩ := run_loadVar_at (P := P) (o := 0) hty (fun j u hu => by rw [Nat.zero_add, cellAt_cells h2]; simpa using hu) h1 hv
            refine ⟨u, ?_, g2⟩
            rw [Nat.zero_add] at g1
            show ((asAddr (a.tmps.getD b undef)) >>= fun d => loadVar t d).run P w = _
            rw [hpv]
            simp [asAddr, g1]
        obtain ⟨u, g1, g2⟩ := one
        refine ⟨u :: us, ?_, g2, h2⟩
        rw [List.mapM_cons]
        simp only [Sem.run_bind, g1, Result.andThen_ok, h1, Sem.run_pure]

theorem resOf_sound (ht : TabOk P tab) {s : St} {a : Act} (hs : RelS ρ s a w) {fn : Func} {v : AV} (h : resOf tab s fn.results.toList = some v) :
    ∃ u, (results fn a.tmps).run P w = .ok u w ∧ Val w (Stay ρ s.hp) ρ s.hp.length v u := by
  unfold resOf at h
  have key : ∀ {vs : List AV}, resAll tab s fn.results.toList = some vs → ∃ us : List Value, (results fn a.tmps).run P w = .ok (if h : us.toArray.size = 1 then us.toArray[0] else .tuple us.toArray) w ∧ All2 (Val w (Stay ρ s.hp) ρ s.hp.length) vs us := by
    intro vs hvs
    obtain ⟨us, h1, h2⟩ := res_sound ht hs hvs
    refine ⟨us, ?_, h2⟩
    unfold results
    rw [Array.mapM_eq_mapM_toList]
    simp only [Sem.run_bind, Sem.run_map]
    erw [h1]
    rfl
  split at h
  · simp at h
  · rename_i v' hvs
    simp only [Option.some.injEq] at h; subst h
    obtain ⟨us, h1, h2⟩ := key hvs
    match us, h2 with
    | [u], h2 => exact ⟨u, by simpa using h1, h2.1⟩
  · rename_i vs hne hvs
    simp only [Option.some.injEq] at h; subst h
    obtain ⟨us, h1, h2⟩ := key hvs
    have hl := h2.length
    have h1' : ¬ us.toArray.size = 1 := by
      intro e
      simp only [List.size_toArray] at e
      rw [e] at hl
      match vs, hl with
      | [x], _ => exact hne x rfl
    rw [dif_neg h1'] at h1
    obtain ⟨d, hd⟩ := all2_depth h2
    exact ⟨_, h1, d + 1, us, rfl, hd⟩

theorem rangeN_get {n i : Nat} (h : i < n) (l : List Nat) : (rangeN n ++ l)[i]? = some i := by
  rw [rangeN_eq, List.getElem?_append_left (by simpa using h)]; simp [h]

theorem pack_step {σ τ : List Ent} {w' : World} {ρ' : Ro} {l : List Nat} (hst : StpN σ.length ρ σ w ρ' τ w') (hlen : σ.length ≤ l.length) (hid : ∀ i, i < σ.length → l[i]? = some i) :
    Stp ρ σ w (ρ'.pack l ρ'.x ρ.m) (pack l τ) w' :=
  ⟨hst.os, hst.tape, hst.output, hst.size, hst.frm, fun b o hb ho => hst.own b o hb (let ⟨i, e, _, he, ho'⟩ := pack_own ho; ⟨i, e, he, ho'⟩), by rw [pack_len]; exact hlen,
   fun i hi => by simp [Ro.pack, List.getD, hid i hi, hst.rb i hi], fun i hi => by simpa [Ro.pack, List.getD, hid i hi] using hst.rt i hi, hst.rx, rfl⟩

theorem via_eq {v : AV} {K : AV → Prop} : via v K ↔ K v := by cases v <;> exact Iff.rfl
theorem viaL_eq {α : Type} {l : List α} {K : List α → Prop} : viaL l K ↔ K l := by cases l <;> exact Iff.rfl

theorem retQ_ret {rs : List ResultVar} {kl : List Nat} {K E : AV → List Ent → Prop} {s : St} (h : retQ tab rs kl K E .ret s ∨ retQ tab rs kl K E .normal s) : match resOf tab s rs with | some r => K (ren (idx kl) 9 r) (pack kl s.hp) | none => False := by
  have h' : match resOf tab s rs with | some r => via (ren (idx kl) 9 r) fun r => viaL (pack kl s.hp) fun h => K r h | none => False := h.elim id id
  split at h'
  · exact viaL_eq.1 (via_eq.1 h')
  · exact h'

/-- The activation's own floor. -/
def Ro.floor (ρ : Ro) (m : Nat) : Ro := ⟨ρ.b, ρ.t, ρ.x, m⟩

theorem floor_own {σ : List Ent} {m b o : Nat} : Own (ρ.floor m) σ b o ↔ Own ρ σ b o := by
  constructor <;> rintro ⟨i, e, hi, ho⟩ <;> exact ⟨i, e, hi, by cases e <;> exact ho⟩

theorem floor_keeps {σ : List Ent} {m : Nat} : Keeps w w (Stay ρ σ) (Stay (ρ.floor m) σ) ρ (ρ.floor m) σ.length σ.length :=
  ⟨fun b o u h hc => ⟨⟨fun ho => h.1 (floor_own.1 ho), h.2⟩, hc⟩, Nat.le_refl _, fun _ _ => rfl, fun _ _ => .inl rfl⟩

theorem floor_rel {σ : List Ent} {m : Nat} (h : Rel ρ σ w) : Rel (ρ.floor m) σ w :=
  ⟨fun i e hi => (h.ents i e hi).keep floor_keeps (lt_of_get hi) rfl (fun _ => rfl) (fun _ _ c e f hc => ⟨c, hc, rfl, fun _ _ _ => rfl⟩),
   fun i j e f b o hi hj he hf => h.disj i j e f b o hi hj (by cases e <;> exact he) (by cases f <;> exact hf), h.xlt, fun b o ho => h.xown b o (floor_own.1 ho)⟩

/-- A block for deferred calls is shut. -/
theorem rel_mark {σ : List Ent} {D : Nat} {q q' : Option (List Deferred)} (h : Rel ρ σ w) (hD : w.heap[D]? = some (.deferred q)) :
    Rel ρ σ (w.putObj D (.deferred q')) ∧ Keeps w (w.putObj D (.deferred q')) (Stay ρ σ) (Stay ρ σ) ρ ρ σ.length σ.length := by
  have oth : ∀ {k : Nat} {ob : Obj}, w.heap[k]? = some ob → (∀ q, ob ≠ .deferred q) → (w.putObj D (.deferred q')).heap[k]? = some ob := by
    intro k ob hk hne
    rw [World.putObj_heap_other (fun e => by subst e; rw [hD] at hk; simp at hk; exact hne _ hk.symm)]; exact hk
  have hkp : Keeps w (w.putObj D (.deferred q')) (Stay ρ σ) (Stay ρ σ) ρ ρ σ.length σ.length := by
    refine ⟨fun b o u hs hc => ⟨hs, ?_⟩, Nat.le_refl _, fun _ _ => rfl, fun _ _ => .inl rfl⟩
    obtain ⟨c, e, f, hb, hu⟩ := cellAt_of hc
    rw [cellAt_cells (oth hb (by simp)), hu]
  refine ⟨⟨fun i e hi => (h.ents i e hi).keep hkp (lt_of_get hi) rfl (fun hk => ?_) (fun _ _ c e f hc => ⟨c, oth hc (by simp), rfl, fun _ _ _ => rfl⟩), h.disj, fun b o ho => by rw [World.putObj_size]; exact h.xlt b o ho, h.xown⟩, hkp⟩
  have := h.ents i e hi
  cases e with
  | var cs => obtain ⟨vs, e, _, h2⟩ := this; rw [oth h2 (by simp), h2]
  | mp es => obtain ⟨ms, c, h1, _⟩ := this; rw [oth h1 (by simp), h1]
  | lp ps asg body env k st pe => obtain ⟨r, h1, _⟩ := this; rw [oth h1 (by simp), h1]
  | _ => simp [Ent.blk] at hk

/-- The marks are taken over one by one. -/
theorem leave_marks {fn : Func} {tmps : Array Value} {R : Ending → World → Prop} {s : St} {w₀ : World} {ρ₀ : Ro} {σ₀ : List Ent} {n₁ : Nat} {u : FrameMode} (hu : u ≠ .run) : ∀ (ds : List Deferred) (w : World), Marks w₀.heap.size w ds →
    Rel ρ s.hp w → (∀ t, Val w (Stay ρ s.hp) ρ s.hp.length (look s.env t) (tmps.getD t undef)) → StpN n₁ ρ₀ σ₀ w₀ ρ s.hp w →
    (∀ (x : AV) (v : Value) (w' : World), Val w (Stay ρ s.hp) ρ s.hp.length x v → Rel ρ s.hp w' → StpN n₁ ρ₀ σ₀ w₀ ρ s.hp w' → Keeps w w' (Stay ρ s.hp) (Stay ρ s.hp) ρ ρ s.hp.length s.hp.length → Val w' (Stay ρ s.hp) ρ s.hp.length x v) →
    (∀ w', Rel ρ s.hp w' → (∀ t, Val w' (Stay ρ s.hp) ρ s.hp.length (look s.env t) (tmps.getD t undef)) → StpN n₁ ρ₀ σ₀ w₀ ρ s.hp w' → Keeps w w' (Stay ρ s.hp) (Stay ρ s.hp) ρ ρ s.hp.length s.hp.length → LeavesIn Fence.wide 0 P fn tmps R [] u w') →
    LeavesInM Fence.wide 0 P fn tmps R ds u w
  | [], w, _, hr, hv, hst, _, h => h w hr hv hst ⟨fun _ _ _ a b => ⟨a, b⟩, Nat.le_refl _, fun _ _ => rfl, fun _ _ => .inl rfl⟩
  | d :: ds, w, ⟨⟨D, hd, hD, hw, hne⟩, hm⟩, hr, hv, hst, hk, h => by
    subst hd
    obtain ⟨g1, g2⟩ := rel_mark (q' := none) hr hw
    have hst' : StpN n₁ ρ₀ σ₀ w₀ ρ s.hp (w.putObj D (.deferred none)) :=
      ⟨hst.os, hst.tape, hst.output, by rw [World.putObj_size]; exact hst.size, fun b ob hb => by
        have := lt_of_heap hb
        rw [World.putObj_heap_other (by omega)]; exact hst.frm b ob hb, hst.own, hst.len, hst.rb, hst.rt, hst.rx, hst.rm⟩
    refine ⟨hu, .inl ⟨D, _, rfl, run_takeDeferred hw, leave_marks hu ds _ ?_ g1 (fun t => (hv t).keep g2) hst' (fun x v w' hx hr' hst'' hk' => hx.keep hk') fun w' hr' hv' hst'' hk' => h w' hr' hv' hst'' ?_⟩⟩
    · -- the other marks stand
      clear h hk
      induction ds with
      | nil => rw [Marks, World.putObj_size]; exact hm
      | cons d' ds ih =>
        obtain ⟨⟨D', h1, h2, h3, h4⟩, h5⟩ := hm
        refine ⟨⟨D', h1, h2, ?_, h4⟩, ih (fun d'' hd => hne d'' (List.mem_cons_of_mem _ hd)) h5⟩
        rw [World.putObj_heap_other]; exact h3
        intro e; subst e
        exact hne d' List.mem_cons_self h1
    · exact ⟨fun b o u hs hc => let ⟨a1, a2⟩ := g2.rd b o u hs hc; hk'.rd b o u a1 a2, Nat.le_refl _, fun _ _ => rfl, fun _ _ => .inl rfl⟩

/-- A function, out of its body: the places of 'keep' are told beside those that it was called with. -/
theorem call_of_awp (ht : TabOk P tab) {f : FuncId} {fn : Func} {c : Code} {args : List AV} {σ : List Ent} {K E : AV → List Ent → Prop} {Q : Ex → St → Prop} (hQ : ∀ x s, Q x s → ∃ keep, (rangeN n₀ ++ keep).Nodup ∧ retQ tab fn.results.toList (rangeN n₀ ++ keep) K E x s)
    (hf : P.funcs[f]? = some fn) (hb : fn.body = some c) (hname : (fn.name == "runtime.NumGoroutine") = false) (hn : σ.length = n₀) (hargs : args.length ≤ fn.ntmps)
    (h : awp (std P n₀) tab c Q ⟨argEnv 0 args, σ, fn.ntmps⟩) : CallA P f args σ K E := by
  refine ⟨⟨fn, c, hf, hb, hname⟩, fun ρ w vs hrel hvs => ?_⟩
  have hl := hvs.length
  have hvs1 : All2 (Val w (Stay (ρ.floor w.heap.size) σ) (ρ.floor w.heap.size) σ.length) args vs := hvs.imp fun _ _ h => h.keep floor_keeps
  refine (callsIn_wide (n := 0)).1 (callsIn_of_wp_marks hf hb trivial ?_ rfl)
  have hs : RelS (ρ.floor w.heap.size) ⟨argEnv 0 args, σ, fn.ntmps⟩ ⟨vs.toArray ++ Array.replicate (fn.ntmps - vs.toArray.size) undef, []⟩ w := by
    refine ⟨Nat.le_refl _, by simp; omega, floor_rel hrel, fun t => ?_⟩
    rw [argEnv_look, if_pos (Nat.zero_le _), Nat.sub_zero]
    cases hx : args[t]? with
    | none => exact Val.junk
    | some x =>
      obtain ⟨v, hv, hxv⟩ := hvs1.get hx
      have hlt := lt_of_get hv
      have : (vs.toArray ++ Array.replicate (fn.ntmps - vs.toArray.size) undef).getD t undef = v := by
        rw [Array.getD_eq_getD_getElem?, Array.getElem?_append_left (by simpa using hlt)]
        simp [hv]
      simp only [this]
      exact hxv
  refine wpIn_mono (awp_sound ht c _ _ h none (ρ.floor w.heap.size) _ w (by rw [hn]; exact Nat.le_refl _) (fun l hl => by simp at hl) hs) ?_
  rintro e a' w1 ⟨x, s', ρ', hq, hx, hr, hst⟩
  obtain ⟨keep, hkeep, hq⟩ := hQ _ _ hq
  have hkl : σ.length ≤ (rangeN n₀ ++ keep).length := by rw [rangeN_eq]; simp; omega
  have hid : ∀ i, i < σ.length → (rangeN n₀ ++ keep)[i]? = some i := fun i hi => rangeN_get (by omega) _
  have hst1 : StpN σ.length (ρ.floor w.heap.size) σ w ρ' s'.hp w1 := by rw [hn]; exact hst
  have hmk : Marks w.heap.size w1 a'.defers := by have := hr.defers; rw [hst.rm] at this; exact this
  -- what is to be shown, the marks taken
  have fin : ∀ w', Rel ρ' s'.hp w' → StpN σ.length (ρ.floor w.heap.size) σ w ρ' s'.hp w' →
      Stp ρ σ w (ρ'.pack (rangeN n₀ ++ keep) ρ'.x ρ.m) (pack (rangeN n₀ ++ keep) s'.hp) w' ∧ Rel (ρ'.pack (rangeN n₀ ++ keep) ρ'.x ρ.m) (pack (rangeN n₀ ++ keep) s'.hp) w' ∧
      ∀ {v : AV} {u : Value}, Val w' (Stay ρ' s'.hp) ρ' s'.hp.length v u → Val w' (Stay (ρ'.pack (rangeN n₀ ++ keep) ρ'.x ρ.m) (pack (rangeN n₀ ++ keep) s'.hp)) (ρ'.pack (rangeN n₀ ++ keep) ρ'.x ρ.m) (pack (rangeN n₀ ++ keep) s'.hp).length (ren (idx (rangeN n₀ ++ keep)) 9 v) u := by
    intro w' hr' hst'
    obtain ⟨hp1, hp2⟩ := rel_pack hr' hkeep (x := ρ'.x) ρ.m (fun b o h => .inl h)
    have hp3 := pack_step hst' hkl hid
    refine ⟨⟨hp3.os, hp3.tape, hp3.output, hp3.size, fun b ob hb => ?_, fun b o hb ho => floor_own.1 (hp3.own b o hb ?_), hp3.len, hp3.rb, hp3.rt, hp3.rx, rfl⟩, hp1, ?_⟩
    · obtain ⟨ob', k1, k2⟩ := hp3.frm b ob hb
      exact ⟨ob', k1, (okBlk.refl (Own ρ σ b) ob).trans k2 fun o ho => floor_own.1 ho⟩
    · obtain ⟨i, e, hi, ho⟩ := ho; exact ⟨i, e, hi, by cases e <;> exact ho⟩
    · rintro v u ⟨d, hv⟩
      rw [pack_len]
      exact ren_val pack_ren (fun b o u hb _ => hp2 b o hb) 9 hv
  have done : ∀ {Kr : Prop}, (match resOf tab s' fn.results.toList with | some r => K (ren (idx (rangeN n₀ ++ keep)) 9 r) (pack (rangeN n₀ ++ keep) s'.hp) | none => False) →
      LeavesInM Fence.wide 0 P fn a'.tmps (fun e w' => ∃ ρ'' σ'', Stp ρ σ w ρ'' σ'' w' ∧ Rel ρ'' σ'' w' ∧ match e with
        | .returned v => ∃ r, K r σ'' ∧ Val w' (Stay ρ'' σ'') ρ'' σ''.length r v
        | .panicked ch => ∃ r v, ch = [{ v, recovered := false }] ∧ E r σ'' ∧ Val w' (Stay ρ'' σ'') ρ'' σ''.length r v
        | .outgrown => False) a'.defers .returning w1 := by
    intro _ hq
    split at hq
    case h_2 => exact hq.elim
    rename_i r hres
    refine leave_marks (ρ := ρ') (s := s') (by simp) a'.defers w1 hmk hr.rel hr.vals hst1 (fun x v w' hx _ _ hk => hx.keep hk) fun w' hr' hv' hst' hk' => ?_
    obtain ⟨u, h1, h2⟩ := resOf_sound (a := ⟨a'.tmps, []⟩) ht ⟨by show ρ'.m ≤ _; rw [hst'.rm]; exact hst'.size, hr.size, hr', hv'⟩ hres
    obtain ⟨f1, f2, f3⟩ := fin w' hr' hst'
    exact ⟨u, h1, _, _, f1, f2, _, hq, f3 h2⟩
  cases x with
  | normal => simp only [exOk] at hx; subst hx; exact done (Kr := True) (retQ_ret (.inr hq))
  | ret => simp only [exOk] at hx; subst hx; exact done (Kr := True) (retQ_ret (.inl hq))
  | exit i => exact hq.elim
  | pan x =>
    obtain ⟨v, rfl, hv⟩ := hx
    refine leave_marks (ρ := ρ') (s := s') (by simp) a'.defers w1 hmk hr.rel hr.vals hst1 (fun x v w' hx _ _ hk => hx.keep hk) fun w' hr' hv' hst' hk' => ?_
    obtain ⟨f1, f2, f3⟩ := fin w' hr' hst'
    exact ⟨_, _, f1, f2, _, v, rfl, hq, f3 (hv.keep hk')⟩

theorem dropN_eq {α : Type} : ∀ (n : Nat) (l : List α), dropN n l = l.drop n
  | 0, _ => rfl
  | _ + 1, [] => rfl
  | n + 1, _ :: l => by simp [dropN, dropN_eq n l]

theorem updFrom_get {l : List Nat} {n : Nat} {τ : List Ent} : ∀ (σ : List Ent) (k i : Nat), (updFrom l n τ k σ)[i]? = (σ[i]?).map fun e => match idx l (k + i) with
    | some j => renE (up l n) (entOr τ[j]?)
    | none => e
  | [], _, _ => by simp [updFrom]
  | e :: σ, k, 0 => by simp only [updFrom, List.getElem?_cons_zero, Option.map_some, Nat.add_zero, nth_eq]; rfl
  | e :: σ, k, i + 1 => by
    simp only [updFrom, List.getElem?_cons_succ]
    rw [updFrom_get σ (k + 1) i, show k + 1 + i = k + (i + 1) by omega]

theorem updFrom_len {l : List Nat} {n : Nat} {τ : List Ent} : ∀ (σ : List Ent) (k : Nat), (updFrom l n τ k σ).length = σ.length
  | [], _ => rfl
  | _ :: σ, k => by simp [updFrom, updFrom_len σ (k + 1)]

/-- What the places of the caller's heap behind the call are: of the callee's, or untouched. -/
theorem back_get {l : List Nat} {σ τ : List Ent} {i : Nat} {e : Ent} (h : (back l σ τ)[i]? = some e) :
    (∃ j, i < σ.length ∧ l[j]? = some i ∧ idx l i = some j ∧ e = renE (up l σ.length) (entOr τ[j]?)) ∨ (i < σ.length ∧ i ∉ l ∧ idx l i = none ∧ σ[i]? = some e) ∨
      (σ.length ≤ i ∧ ∃ f, τ[l.length + (i - σ.length)]? = some f ∧ e = renE (up l σ.length) f) := by
  unfold back at h
  rw [lenN_eq, lenN_eq, dropN_eq] at h
  by_cases hi : i < σ.length
  · rw [List.getElem?_append_left (by rw [updFrom_len]; exact hi), updFrom_get, Nat.zero_add] at h
    simp only [Option.map_eq_some_iff] at h
    obtain ⟨e0, he0, h⟩ := h
    split at h
    · rename_i j hj
      exact .inl ⟨j, hi, idx_some hj, hj, h.symm⟩
    · rename_i hj
      subst h
      exact .inr (.inl ⟨hi, idx_none hj, hj, he0⟩)
  · rw [List.getElem?_append_right (by rw [updFrom_len]; omega), updFrom_len] at h
    simp only [List.getElem?_map, List.getElem?_drop, Option.map_eq_some_iff] at h
    obtain ⟨f, hf, rfl⟩ := h
    exact .inr (.inr ⟨by omega, f, hf, rfl⟩)

def Ro.back (ρ : Ro) (l : List Nat) (n : Nat) (ρs : Ro) : Ro :=
  ⟨fun i => match idx l i with | some j => ρs.b j | none => if i < n then ρ.b i else ρs.b (l.length + (i - n)),
   fun i => match idx l i with | some j => ρs.t j | none => if i < n then ρ.t i else ρs.t (l.length + (i - n)), ρ.x, ρ.m⟩

theorem idx_of_nodup : ∀ {l : List Nat} {i j : Nat}, l.Nodup → l[j]? = some i → idx l i = some j
  | [], _, _, _, h => by simp at h
  | x :: l, i, 0, hn, h => by simp at h; subst h; simp [idx]
  | x :: l, i, j + 1, hn, h => by
    have hn' := List.nodup_cons.1 hn
    have h' : l[j]? = some i := by simpa using h
    have hne : x ≠ i := fun e => by subst e; exact hn'.1 (List.mem_of_getElem? h')
    simp only [idx]
    split
    · rename_i e; exact absurd (Nat.eq_of_beq_eq_true e) hne
    · rw [idx_of_nodup hn'.2 h']

/-- A call that has the places l of the heap: the others stay as they are, and the callee sees nothing of them. -/
theorem call_frame {f : FuncId} {args : List AV} {σ : List Ent} {K E : AV → List Ent → Prop} (l : List Nat) (hl : l.Nodup) (hlt : ∀ i ∈ l, i < σ.length)
    (h : CallA P f (args.map (ren (idx l) 9)) (pack l σ) (fun r τ => K (ren (up l (lenN σ)) 9 r) (back l σ τ)) (fun r τ => E (ren (up l (lenN σ)) 9 r) (back l σ τ))) : CallA P f args σ K E := by
  refine ⟨h.1, fun ρ w vs hrel hvs => ?_⟩
  obtain ⟨x, hxdef⟩ : ∃ x : Nat → Nat → Prop, x = fun b o => ρ.x b o ∨ ∃ i e, i ∉ l ∧ σ[i]? = some e ∧ OwnE ρ i b o e := ⟨_, rfl⟩
  obtain ⟨hs1, hs2⟩ := rel_pack hrel hl (x := x) ρ.m (fun b o h => by rw [hxdef] at h; exact h)
  have hargs : All2 (Val w (Stay (ρ.pack l x ρ.m) (pack l σ)) (ρ.pack l x ρ.m) (pack l σ).length) (args.map (ren (idx l) 9)) vs := by
    rw [pack_len]; exact ren_vals pack_ren (fun b o u hb _ => hs2 b o hb) 9 hvs
  refine (h.2 (ρ.pack l x ρ.m) w vs hs1 hargs).mono ?_
  rintro en w' ⟨ρs, τ, hst, hr, hen⟩
  have hll : l.length ≤ τ.length := by have := hst.len; rwa [pack_len] at this
  have hlenb : (back l σ τ).length = σ.length + (τ.length - l.length) := by
    unfold back; rw [lenN_eq, lenN_eq, dropN_eq]; simp [updFrom_len]
  -- the callee's places in the caller's heap
  have hup : RenOk (up l σ.length) ρs (ρ.back l σ.length ρs) τ.length (back l σ τ).length := by
    have cases : ∀ j i, j < τ.length → up l σ.length j = some i → (l[j]? = some i ∧ idx l i = some j) ∨ (l.length ≤ j ∧ i = σ.length + (j - l.length) ∧ idx l i = none) := by
      intro j i hj hu
      unfold up at hu
      rw [nth_eq] at hu
      split at hu
      · rename_i k hk
        simp only [Option.some.injEq] at hu; subst hu
        exact .inl ⟨hk, idx_of_nodup hl hk⟩
      · rename_i hk
        simp only [Option.some.injEq, lenN_eq] at hu; subst hu
        have hge : l.length ≤ j := by
          rcases Nat.lt_or_ge j l.length with h1 | h1
          · rw [List.getElem?_eq_getElem h1] at hk; simp at hk
          · exact h1
        refine .inr ⟨hge, rfl, ?_⟩
        cases hid : idx l (σ.length + (j - l.length)) with
        | none => rfl
        | some m => have := hlt _ (List.mem_of_getElem? (idx_some hid)); omega
    refine ⟨fun j i hj hu => ?_, fun j i hj hu => ?_, fun j i hj hu => ?_⟩
    · rcases cases j i hj hu with ⟨h1, _⟩ | ⟨h1, rfl, _⟩
      · have := hlt i (List.mem_of_getElem? h1); rw [hlenb]; omega
      · rw [hlenb]; omega
    · rcases cases j i hj hu with ⟨h1, h2⟩ | ⟨h1, rfl, h2⟩
      · simp [Ro.back, h2]
      · simp only [Ro.back, h2]; rw [if_neg (by omega), show l.length + (σ.length + (j - l.length) - σ.length) = j by omega]
    · rcases cases j i hj hu with ⟨h1, h2⟩ | ⟨h1, rfl, h2⟩
      · simp [Ro.back, h2]
      · simp only [Ro.back, h2]; rw [if_neg (by omega), show l.length + (σ.length + (j - l.length) - σ.length) = j by omega]
  have hown1 : ∀ b o, Own (ρ.back l σ.length ρs) (back l σ τ) b o → Own ρs τ b o ∨ ∃ i e, i < σ.length ∧ i ∉ l ∧ σ[i]? = some e ∧ OwnE ρ i b o e := by
    rintro b o ⟨i, e, hi, ho⟩
    rcases back_get hi with ⟨j, hil, hlj, hij, rfl⟩ | ⟨hil, hnl, hij, he⟩ | ⟨hil, f, hf, rfl⟩
    · rw [renE_own (ρ := ρs) (i := j) (by simp [Ro.back, hij]) (by simp [Ro.back, hij])] at ho
      cases hj : τ[j]? with
      | none => rw [hj] at ho; exact ho.elim
      | some e => rw [hj] at ho; exact .inl ⟨j, e, hj, ho⟩
    · exact .inr ⟨i, e, hil, hnl, he, (OwnE.congr (by simp [Ro.back, hij, hil]) (by simp [Ro.back, hij, hil])).1 ho⟩
    · have hin : idx l i = none := by
        cases hid : idx l i with
        | none => rfl
        | some m => have := hlt _ (List.mem_of_getElem? (idx_some hid)); omega
      rw [renE_own (ρ := ρs) (i := l.length + (i - σ.length)) (by simp [Ro.back, hin, Nat.not_lt.2 hil]) (by simp [Ro.back, hin, Nat.not_lt.2 hil])] at ho
      exact .inl ⟨_, f, hf, ho⟩
  have hsmall : ∀ b o, b < w.heap.size → Own ρs τ b o → ∃ i e, i ∈ l ∧ σ[i]? = some e ∧ OwnE ρ i b o e := fun b o hb ho => pack_own (hst.own b o hb ho)
  have holt : ∀ i e b o, σ[i]? = some e → OwnE ρ i b o e → b < w.heap.size := by
    intro i e b o he ho
    have := hrel.ents i e he
    cases e with
    | var cs => obtain ⟨vs, e, _, h2⟩ := this; simp only [OwnE] at ho; subst ho; exact lt_of_heap h2
    | mp es => obtain ⟨ms, c, h1, _⟩ := this; simp only [OwnE] at ho; subst ho; exact lt_of_heap h1
    | lp ps asg body env k st pe => obtain ⟨r, h1, _⟩ := this; simp only [OwnE] at ho; subst ho; exact lt_of_heap h1
    | tip pos => obtain ⟨_, _, h3⟩ := this; obtain ⟨rfl, h4, h5⟩ := ho; obtain ⟨c, e, f, g1, _⟩ := h3 (by omega); exact lt_of_heap g1
    | vec s xs => obtain ⟨_, _, h3, _⟩ := this; obtain ⟨rfl, h4, h5⟩ := ho; obtain ⟨c, e, f, g1, _⟩ := h3 (by omega); exact lt_of_heap g1
    | dead => exact ho.elim
  have hxs : ρs.x = x := hst.rx
  -- what the callee may read, the caller may
  have hS : ∀ b o u, Stay ρs τ b o → cellAt w' b o = some u → Stay (ρ.back l σ.length ρs) (back l σ τ) b o := by
    intro b o u hb _
    refine ⟨fun ho => ?_, fun hx => hb.2 (by rw [hxs, hxdef]; exact .inl hx)⟩
    rcases hown1 b o ho with h1 | ⟨i, e, _, hnl, he, ho'⟩
    · exact hb.1 h1
    · exact hb.2 (by rw [hxs, hxdef]; exact .inr ⟨i, e, hnl, he, ho'⟩)
  have hstep : Stp ρ σ w (ρ.back l σ.length ρs) (back l σ τ) w' := by
    refine ⟨hst.os, hst.tape, hst.output, hst.size, fun b ob hb => ?_, fun b o hb ho => ?_, by rw [hlenb]; omega, fun i hi => ?_, fun i hi => ?_, rfl, rfl⟩
    · obtain ⟨ob', h1, h2⟩ := hst.frm b ob hb
      refine ⟨ob', h1, (okBlk.refl (Own ρ σ b) ob).trans h2 fun o ho => ?_⟩
      obtain ⟨i, e, _, he, ho⟩ := pack_own ho
      exact ⟨i, e, he, ho⟩
    · rcases hown1 b o ho with h1 | ⟨i, e, _, _, he, ho'⟩
      · obtain ⟨i, e, _, he, ho⟩ := hsmall b o hb h1; exact ⟨i, e, he, ho⟩
      · exact ⟨i, e, he, ho'⟩
    · cases hid : idx l i with
      | none => simp [Ro.back, hid, hi]
      | some j =>
        have hj := idx_some hid
        have := hst.rb j (by rw [pack_len]; exact lt_of_get hj)
        simp only [Ro.back, hid, this]
        simp [Ro.pack, List.getD, hj]
    · cases hid : idx l i with
      | none => left; simp [Ro.back, hid, hi]
      | some j =>
        have hj := idx_some hid
        have := hst.rt j (by rw [pack_len]; exact lt_of_get hj)
        simp only [Ro.back, hid]
        simpa [Ro.pack, List.getD, hj] using this
  have hrel' : Rel (ρ.back l σ.length ρs) (back l σ τ) w' := by
    refine ⟨fun i e hi => ?_, fun i i' e e' b o hi hi' ho ho' => ?_, fun b o hx => Nat.lt_of_lt_of_le (hrel.xlt b o hx) hst.size, fun b o ho hx => ?_⟩
    · rcases back_get hi with ⟨j, hil, hlj, hij, rfl⟩ | ⟨hil, hnl, hij, he⟩ | ⟨hil, f, hf, rfl⟩
      · cases hj : τ[j]? with
        | none => simp [entOr, renE, EntOk]
        | some e => exact renE_ok hup hS (hr.ents j e hj) (by simp [Ro.back, hij]) (by simp [Ro.back, hij])
      · have hb' : (ρ.back l σ.length ρs).b i = ρ.b i := by simp [Ro.back, hij, hil]
        have ht' : (ρ.back l σ.length ρs).t i = ρ.t i := by simp [Ro.back, hij, hil]
        refine (hrel.ents i e he).keep hstep.keeps hil ht' (fun hk => ?_) (fun hp hlt' c e' f hc => ?_)
        · have hex : ∃ ob, w.heap[ρ.b i]? = some ob ∧ ∀ o', OwnE ρ i (ρ.b i) o' e := by
            have := hrel.ents i e he
            cases e with
            | var cs => obtain ⟨vs, e, _, h2⟩ := this; exact ⟨_, h2, fun _ => rfl⟩
            | mp es => obtain ⟨ms, c, h1, _⟩ := this; exact ⟨_, h1, fun _ => rfl⟩
            | lp ps asg body env k st pe => obtain ⟨r, h1, _⟩ := this; exact ⟨_, h1, fun _ => rfl⟩
            | _ => simp [Ent.blk] at hk
          obtain ⟨ob, hob, hall⟩ := hex
          obtain ⟨ob', h1, h2⟩ := hst.frm _ _ hob
          have hno : ∀ o', ¬ Own (ρ.pack l x ρ.m) (pack l σ) (ρ.b i) o' := by
            intro o' ho
            obtain ⟨i', e', hil', he', ho'⟩ := pack_own ho
            have := hrel.disj i i' e e' (ρ.b i) o' he he' (hall o') ho'
            subst this; exact hnl hil'
          rw [h1, hob]
          cases ob with
          | cells c e' f =>
            obtain ⟨c', rfl, h3, h4⟩ := h2
            congr 2
            apply Array.ext_getElem?
            intro j; exact h4 j (hno j)
          | loop r =>
            obtain ⟨r', rfl, _, h4⟩ := h2
            rcases h4 with h4 | h4
            · exact absurd h4 (hno 0)
            · rw [h4]
          | _ => rcases h2 with h2 | h2
                 · exact absurd h2 (hno 0)
                 · rw [h2]
        · obtain ⟨ob', h1, c', rfl, h3, h4⟩ := hst.frm _ _ hc
          refine ⟨c', h1, h3, fun o' g1 g2 => h4 o' fun ho => ?_⟩
          obtain ⟨i', e'', hil', he', ho'⟩ := pack_own ho
          have := hrel.disj i i' e e'' (ρ.t i).blk o' he he' (by cases e <;> first | (simp [Ent.row] at hp; done) | exact ⟨rfl, g1, g2⟩) ho'
          subst this; exact hnl hil'
      · have hin : idx l i = none := by
          cases hid : idx l i with
          | none => rfl
          | some m => have := hlt _ (List.mem_of_getElem? (idx_some hid)); omega
        exact renE_ok hup hS (hr.ents _ f hf) (by simp [Ro.back, hin, Nat.not_lt.2 hil]) (by simp [Ro.back, hin, Nat.not_lt.2 hil])
    · -- who owns a cell is one
      have tell : ∀ i e, (back l σ τ)[i]? = some e → OwnE (ρ.back l σ.length ρs) i b o e → (∃ j f, τ[j]? = some f ∧ OwnE ρs j b o f ∧ up l σ.length j = some i) ∨ (i ∉ l ∧ σ[i]? = some e ∧ OwnE ρ i b o e) := by
        intro i e hi ho
        rcases back_get hi with ⟨j, hil, hlj, hij, rfl⟩ | ⟨hil, hnl, hij, he⟩ | ⟨hil, f, hf, rfl⟩
        · rw [renE_own (ρ := ρs) (i := j) (by simp [Ro.back, hij]) (by simp [Ro.back, hij])] at ho
          cases hj : τ[j]? with
          | none => rw [hj] at ho; exact ho.elim
          | some e => rw [hj] at ho; exact .inl ⟨j, e, hj, ho, by simp [up, nth_eq, hlj]⟩
        · exact .inr ⟨hnl, he, (OwnE.congr (by simp [Ro.back, hij, hil]) (by simp [Ro.back, hij, hil])).1 ho⟩
        · have hin : idx l i = none := by
            cases hid : idx l i with
            | none => rfl
            | some m => have := hlt _ (List.mem_of_getElem? (idx_some hid)); omega
          rw [renE_own (ρ := ρs) (i := l.length + (i - σ.length)) (by simp [Ro.back, hin, Nat.not_lt.2 hil]) (by simp [Ro.back, hin, Nat.not_lt.2 hil])] at ho
          refine .inl ⟨_, f, hf, ho, ?_⟩
          simp only [up, nth_eq, lenN_eq]
          rw [List.getElem?_eq_none (by omega)]
          simp only [Option.some.injEq]; omega
      have clash : ∀ i e j f, i ∉ l → σ[i]? = some e → OwnE ρ i b o e → τ[j]? = some f → OwnE ρs j b o f → False := by
        intro i e j f hnl he ho hf hof
        obtain ⟨i', e', hil', he', ho'⟩ := hsmall b o (holt i e b o he ho) ⟨j, f, hf, hof⟩
        have := hrel.disj i i' e e' b o he he' ho ho'
        subst this; exact hnl hil'
      rcases tell i e hi ho with ⟨j, f, hf, hof, hu⟩ | ⟨hnl, he, hoe⟩ <;> rcases tell i' e' hi' ho' with ⟨j', f', hf', hof', hu'⟩ | ⟨hnl', he', hoe'⟩
      · have := hr.disj j j' f f' b o hf hf' hof hof'
        subst this
        rw [hu] at hu'; simpa using hu'
      · exact (clash i' e' j f hnl' he' hoe' hf hof).elim
      · exact (clash i e j' f' hnl he hoe hf' hof').elim
      · exact hrel.disj i i' e e' b o he he' hoe hoe'
    · exact hrel.xown b o (hstep.own b o (hrel.xlt b o hx) ho) hx
  have conv : ∀ {v : AV} {u : Value}, Val w' (Stay ρs τ) ρs τ.length v u → Val w' (Stay (ρ.back l σ.length ρs) (back l σ τ)) (ρ.back l σ.length ρs) (back l σ τ).length (ren (up l (lenN σ)) 9 v) u := by
    rintro v u ⟨d, hv⟩
    rw [lenN_eq]
    exact ren_val hup hS 9 hv
  refine ⟨_, _, hstep, hrel', ?_⟩
  cases en with
  | returned v => obtain ⟨r, hk, hv⟩ := hen; exact ⟨_, hk, conv hv⟩
  | panicked ch => obtain ⟨r, v, rfl, hk, hv⟩ := hen; exact ⟨_, v, rfl, hk, conv hv⟩
  | outgrown => exact hen.elim

theorem call_mono {f : FuncId} {args : List AV} {σ : List Ent} {K K' E E' : AV → List Ent → Prop} (h : CallA P f args σ K E) (hk : ∀ r τ, K r τ → K' r τ) (he : ∀ r τ, E r τ → E' r τ) : CallA P f args σ K' E' := by
  refine ⟨h.1, fun ρ w vs hrel hvs => (h.2 ρ w vs hrel hvs).mono ?_⟩
  rintro en w' ⟨ρ', σ', hst, hr, hen⟩
  refine ⟨ρ', σ', hst, hr, ?_⟩
  cases en with
  | returned v => obtain ⟨r, h1, h2⟩ := hen; exact ⟨r, hk _ _ h1, h2⟩
  | panicked ch => obtain ⟨r, v, rfl, h1, h2⟩ := hen; exact ⟨r, v, rfl, he _ _ h1, h2⟩
  | outgrown => exact hen

/-- A function's body. -/
def bodyOf (fn : Func) : Code := fn.body.getD .skip

theorem call_fn (ht : TabOk P tab) {f : FuncId} {fn : Func} {args : List AV} {σ : List Ent} {K E : AV → List Ent → Prop} (keep : List Nat)
    (hf : P.funcs[f]? = some fn) (hb : fn.body.isSome = true) (hname : (fn.name == "runtime.NumGoroutine") = false) (hn : σ.length = n₀) (hargs : Nat.ble args.length fn.ntmps = true) (hkeep : (rangeN n₀ ++ keep).Nodup)
    (h : ∀ J, J = std P n₀ → awp J tab (bodyOf fn) (retQ tab fn.results.toList (rangeN n₀ ++ keep) K E) ⟨argEnv 0 args, σ, fn.ntmps⟩) : CallA P f args σ K E := by
  obtain ⟨c, hc⟩ := Option.isSome_iff_exists.1 hb
  have h' := h _ rfl
  rw [show bodyOf fn = c by simp [bodyOf, hc]] at h'
  exact call_of_awp ht (fun _ _ h => ⟨keep, hkeep, h⟩) hf hc hname hn (by simpa using hargs) h'

/-- What is to hold when a body has ended; which places are told is chosen there. -/
inductive KeepQ (tab : Nat → Ty) (rs : List ResultVar) (n₀ : Nat) (K E : AV → List Ent → Prop) (x : Ex) (s : St) : Prop where
  | mk (keep : List Nat) (hk : (rangeN n₀ ++ keep).Nodup) (h : retQ tab rs (rangeN n₀ ++ keep) K E x s)

theorem call_keep (ht : TabOk P tab) {f : FuncId} {fn : Func} {args : List AV} {σ : List Ent} {K E : AV → List Ent → Prop}
    (hf : P.funcs[f]? = some fn) (hb : fn.body.isSome = true) (hname : (fn.name == "runtime.NumGoroutine") = false) (hn : σ.length = n₀) (hargs : Nat.ble args.length fn.ntmps = true)
    (h : ∀ J, J = std P n₀ → awp J tab (bodyOf fn) (KeepQ tab fn.results.toList n₀ K E) ⟨argEnv 0 args, σ, fn.ntmps⟩) : CallA P f args σ K E := by
  obtain ⟨c, hc⟩ := Option.isSome_iff_exists.1 hb
  have h' := h _ rfl
  rw [show bodyOf fn = c by simp [bodyOf, hc]] at h'
  exact call_of_awp ht (fun _ _ ⟨keep, hk, h⟩ => ⟨keep, hk, h⟩) hf hc hname hn (by simpa using hargs) h'

/-- A call with the places l of the heap. -/
theorem call_in {J : Jd} (hJ : J = std P n₀) {f : FuncId} {args args' : List AV} {σ σ' : List Ent} {K E : AV → List Ent → Prop} (l : List Nat) (hl : l.Nodup) (hlt : l.all (fun i => Nat.blt i (lenN σ)) = true)
    (ha : args.map (ren (idx l) 9) = args') (hs : pack l σ = σ')
    (h : CallA P f args' σ' (fun r τ => K (ren (up l (lenN σ)) 9 r) (back l σ τ)) (fun r τ => E (ren (up l (lenN σ)) 9 r) (back l σ τ))) : J.call f args σ K E := by
  subst hJ ha hs
  refine call_frame l hl (fun i hi => ?_) h
  have := List.all_eq_true.1 hlt i hi
  rw [lenN_eq] at this
  simpa [Nat.blt_eq] using this

theorem back_nil (σ : List Ent) : back [] σ [] = σ := by
  have : ∀ (σ : List Ent) (n k : Nat), updFrom [] n [] k σ = σ := by
    intro σ
    induction σ with
    | nil => intro n k; rfl
    | cons e σ ih => intro n k; simp [updFrom, idx, ih]
  simp [back, this, dropN, lenN]

/-- The call of a function that only computes. -/
theorem call_pure {J : Jd} (hJ : J = std P n₀) {f : FuncId} {args : List AV} {r : AV} {σ : List Ent} {K E : AV → List Ent → Prop} (h : ∀ K E, K r [] → CallA P f (args.map (ren (idx []) 9)) [] K E)
    (hk : K (ren (up [] (lenN σ)) 9 r) σ) : J.call f args σ K E := by
  subst hJ
  refine call_frame [] List.nodup_nil (by simp) ?_
  refine call_mono (K := fun r' τ => r' = r ∧ τ = []) (E := fun _ _ => False) (by simpa [pack] using h _ _ ⟨rfl, rfl⟩) ?_ ?_
  · rintro r τ ⟨rfl, rfl⟩
    rw [back_nil]; exact hk
  · intro r τ h; exact h.elim

theorem fit_bool {K : AV → List Ent → Prop} {a b : Bool} {τ : List Ent} (h : K (.bool a) τ) (e : b = a) : K (.bool b) τ := e ▸ h
theorem fit_int {K : AV → List Ent → Prop} {a b : Int} {k : IntKind} {τ : List Ent} (h : K (.int k a) τ) (e : b = a) : K (.int k b) τ := e ▸ h
theorem fit {K : AV → List Ent → Prop} {a b : AV} {τ : List Ent} (h : K a τ) (e : b = a) : K b τ := e ▸ h

theorem pure_at {J : Jd} (hJ : J = std P n₀) {f : FuncId} {args : List AV} {r r' : AV} {K : AV → Prop} (h : ∀ K E, K r [] → CallA P f (args.map (ren (idx []) 9)) [] K E) (hr : ∀ n, ren (up [] n) 9 r = r') (hk : K r') : J.pure f args K := by
  subst hJ
  refine ⟨r', fun σ K E hk' => ?_, hk⟩
  exact call_pure (J := std P n₀) rfl h ((hr _).symm ▸ hk')

end
end Go.Pt
