/- Loops over functions: what a round does, and the loop. -/
import Derived.Test.YtilffanmaicakaaAmCalls
import Derived.RangeFuncNested
namespace Go.Pt
open Go

section
variable {P : Program} {n₀ : Nat} {tab : Nat → Ty} {w : World} {ρ : Ro} {σ : List Ent}

/-- The slots of a round: the loop's own, the function's arguments in its parameters. -/
def zipEnv : List Nat → List AV → List (Nat × AV) → List (Nat × AV)
  | p :: ps, v :: vs, env => zipEnv ps vs ((p, v) :: env)
  | _, _, env => env

def allLt : List Nat → Nat → Bool
  | [], _ => true
  | p :: ps, n => match Nat.blt p n with | true => allLt ps n | false => false

/-- The loop's record turned. -/
theorem rel_loop (h : Rel ρ σ w) {i : Nat} {ps : List Nat} {asg body : Code} {env : List (Nat × AV)} {k : Nat} {st st' : LoopState} {pe pe' : Option Code}
    (hi : σ[i]? = some (.lp ps asg body env k st pe)) {r : Loop} (hr : w.heap[ρ.b i]? = some (.loop r)) :
    Stp ρ σ w ρ (setN σ i (.lp ps asg body env k st' pe')) (w.putObj (ρ.b i) (.loop { r with state := st', pending := pe' })) ∧
      Rel ρ (setN σ i (.lp ps asg body env k st' pe')) (w.putObj (ρ.b i) (.loop { r with state := st', pending := pe' })) := by
  have hnew := World.putObj_heap_same (w := w) (o := .loop { r with state := st', pending := pe' }) (lt_of_heap hr)
  have oth : ∀ {b : Nat}, b ≠ ρ.b i → (w.putObj (ρ.b i) (.loop { r with state := st', pending := pe' })).heap[b]? = w.heap[b]? := fun h => World.putObj_heap_other h
  have hlen : (setN σ i (.lp ps asg body env k st' pe')).length = σ.length := by rw [setN_eq]; simp
  have hown : ∀ b o, Own ρ (setN σ i (.lp ps asg body env k st' pe')) b o ↔ Own ρ σ b o := by
    intro b o
    constructor
    · rintro ⟨j, f, hj, ho⟩
      rcases get_set hj with ⟨rfl, rfl⟩ | ⟨hne, hj⟩
      · exact ⟨j, _, hi, ho⟩
      · exact ⟨j, f, hj, ho⟩
    · rintro ⟨j, f, hj, ho⟩
      by_cases hne : j = i
      · subst hne
        rw [hi] at hj; simp at hj; subst hj
        exact ⟨j, .lp ps asg body env k st' pe', by rw [setN_eq]; simp [lt_of_get hi], ho⟩
      · exact ⟨j, f, by rw [setN_eq, List.getElem?_set]; simp [Ne.symm hne, hj], ho⟩
  have hst : Stp ρ σ w ρ (setN σ i (.lp ps asg body env k st' pe')) (w.putObj (ρ.b i) (.loop { r with state := st', pending := pe' })) := by
    refine ⟨rfl, rfl, rfl, by rw [World.putObj_size]; exact Nat.le_refl _, fun b ob hob => ?_, fun b o _ ho => (hown b o).1 ho, by omega, fun _ _ => rfl, fun _ _ => .inl rfl, rfl, rfl⟩
    by_cases hbb : b = ρ.b i
    · subst hbb
      rw [hr] at hob; simp at hob; subst hob
      exact ⟨_, hnew, _, rfl, rfl, .inl ⟨i, _, hi, rfl⟩⟩
    · exact ⟨ob, by rw [oth hbb]; exact hob, okBlk.refl _ _⟩
  refine ⟨hst, fun j f hj => ?_, fun j l f g b o hj hl hf hg => ?_, fun b o ho => by rw [World.putObj_size]; exact h.xlt b o ho, fun b o ho => h.xown b o ((hown b o).1 ho)⟩
  · rcases get_set hj with ⟨rfl, rfl⟩ | ⟨hne, hj⟩
    · obtain ⟨r0, g1, g2, g3, g4, g5, g6, g7, g8⟩ := h.ents j _ hi
      rw [hr] at g1; simp at g1; subst g1
      exact ⟨_, hnew, g2, g3, g4, rfl, rfl, g7, fun t => (g8 t).step hst⟩
    · refine (h.ents j f hj).keep hst.keeps (lt_of_get hj) rfl (fun hk => ?_) (fun hp hlt c e' f' hc => ?_)
      · refine oth fun e => hne ?_
        refine h.disj j i f _ (ρ.b i) 0 hj hi ?_ rfl
        cases f <;> simp_all [Ent.blk, OwnE]
      · refine ⟨c, ?_, rfl, fun _ _ _ => rfl⟩
        rw [oth fun e => by rw [e, hr] at hc; simp at hc]; exact hc
  · have back : ∀ j f, (setN σ i (.lp ps asg body env k st' pe'))[j]? = some f → OwnE ρ j b o f → ∃ f', σ[j]? = some f' ∧ OwnE ρ j b o f' := by
      intro j f hj ho
      rcases get_set hj with ⟨rfl, rfl⟩ | ⟨hne, hj⟩
      · exact ⟨_, hi, ho⟩
      · exact ⟨f, hj, ho⟩
    obtain ⟨f', hj', hf'⟩ := back j f hj hf
    obtain ⟨g', hl', hg'⟩ := back l g hl hg
    exact h.disj j l f' g' b o hj' hl' hf' hg'

theorem zip_vals {S : Nat → Nat → Prop} {n k : Nat} : ∀ {ps : List Nat} {vs : List AV} {us : List Value} {env : List (Nat × AV)} {tmps : Array Value}, allLt ps k = true → tmps.size = k → All2 (Val w S ρ n) vs us → ps.length = vs.length →
    (∀ t, Val w S ρ n (look env t) (tmps.getD t undef)) →
    ((ps.zip us).foldl (fun tmps (x : Nat × Value) => tmps.setIfInBounds x.1 x.2) tmps).size = k ∧
    ∀ t, Val w S ρ n (look (zipEnv ps vs env) t) (((ps.zip us).foldl (fun tmps (x : Nat × Value) => tmps.setIfInBounds x.1 x.2) tmps).getD t undef)
  | [], [], [], env, tmps, _, hs, _, _, h => ⟨hs, h⟩
  | p :: ps, v :: vs, u :: us, env, tmps, hp, hs, hv, hl, h => by
    simp only [allLt] at hp
    split at hp
    case h_2 => simp at hp
    rename_i hlt
    have hlt' : p < tmps.size := by rw [hs]; simpa [Nat.blt_eq] using hlt
    simp only [List.zip_cons_cons, List.foldl_cons, zipEnv]
    refine zip_vals hp (by simp [hs]) hv.2 (by simpa using hl) fun t => ?_
    simp only [look]
    split
    · rename_i e
      have := Nat.eq_of_beq_eq_true e; subst this
      simp [Array.getD, hlt']; exact hv.1
    · rename_i e
      have hne : p ≠ t := fun he => by subst he; simp at e
      have : (tmps.setIfInBounds p u).getD t undef = tmps.getD t undef := by
        simp [Array.getD_eq_getD_getElem?, Array.getElem?_setIfInBounds, hne]
      rw [this]; exact h t
  | [], [], _ :: _, _, _, _, _, hv, _, _ => hv.elim
  | _ :: _, _ :: _, [], _, _, _, _, hv, _, _ => hv.elim
  | [], _ :: _, _, _, _, _, _, _, hl, _ => by simp at hl
  | _ :: _, [], _, _, _, _, _, _, hl, _ => by simp at hl

/-- What is to hold when a round has ended. -/
def roundQ (i : Nat) (K : AV → List Ent → Prop) : Ex → St → Prop
  | .normal, s => match nth s.hp i with
    | some (.lp ps a b env n .busy _) => K (.bl true) (setN s.hp i (.lp ps a b env n .ready none))
    | _ => False
  | .exit id, s => match nth s.hp i with
    | some (.lp ps a b env n .busy _) => K (.bl false) (setN s.hp i (.lp ps a b env n .done (some (.exit id))))
    | _ => False
  | .ret, s => match nth s.hp i with
    | some (.lp ps a b env n .busy _) => K (.bl false) (setN s.hp i (.lp ps a b env n .done (some .ret)))
    | _ => False
  | .pan _, _ => False

def asgQ (J : Jd) (tab : Nat → Ty) (i : Nat) (body : Code) (K : AV → List Ent → Prop) : Ex → St → Prop
  | .normal, s => match nth s.hp i with
    | some (.lp ps a b env n .ready pe) => awp J tab body (roundQ i K) ⟨s.env, setN s.hp i (.lp ps a b env n .busy pe), s.n⟩
    | _ => False
  | _, _ => False

theorem yield_at {J : Jd} (hJ : J = std P n₀) (ht : TabOk P tab) {i : Nat} {args : List AV} {K : AV → List Ent → Prop} {ps : List Nat} {asg body : Code} {env : List (Nat × AV)} {n : Nat} {pe : Option Code}
    (hi : nth σ i = some (.lp ps asg body env n .ready pe)) (hl : Nat.beq (lenN ps) (lenN args) = true) (hp : allLt ps n = true)
    (h : ∀ J, J = std P (lenN σ) → awp J tab asg (asgQ J tab i body K) ⟨zipEnv ps args env, σ, n⟩) : J.yld i args σ K := by
  subst hJ
  intro ρ w vs hrel hvs
  rw [nth_eq] at hi
  obtain ⟨r, g1, g2, g3, g4, g5, g6, g7, g8⟩ := hrel.ents i _ hi
  have hl' : ps.length = args.length := by have := Nat.eq_of_beq_eq_true hl; rwa [lenN_eq, lenN_eq] at this
  have hlv := hvs.length
  have hz := zip_vals hp g7 hvs hl' g8
  have hzip : (r.params.zip vs.toArray).foldl (fun tmps (t, a) => tmps.setIfInBounds t a) r.tmps = (ps.zip vs).foldl (fun tmps (x : Nat × Value) => tmps.setIfInBounds x.1 x.2) r.tmps := by
    rw [g2]; simp
  refine ⟨r.fn, _, r.assign, r.body, run_yield g1 (by rw [g2]; simp; omega), ?_⟩
  rw [hzip, g3, g4]
  have hcode := awp_sound ht asg _ _ (h _ rfl)
  rw [lenN_eq] at hcode
  have hrd : IsRound (some (ρ.b i)) w := fun l hl => by simp at hl; subst hl; exact ⟨r, g1⟩
  have hs : RelS (ρ.floor 0) ⟨zipEnv ps args env, σ, n⟩ ⟨(ps.zip vs).foldl (fun tmps (x : Nat × Value) => tmps.setIfInBounds x.1 x.2) r.tmps, []⟩ w :=
    ⟨Nat.zero_le _, hz.1, floor_rel hrel, fun t => (hz.2 t).keep floor_keeps⟩
  refine roundIn_of_wpIn (F := Fence.wide) trivial (wpIn_mono (hcode (some (ρ.b i)) (ρ.floor 0) _ w (Nat.le_refl _) hrd hs) ?_)
  rintro e a1 w1 ⟨x1, s1, ρ1, hq1, hx1, hr1, hst1⟩
  have hst1' : Stp (ρ.floor 0) σ w ρ1 s1.hp w1 := hst1
  have hb1 : ρ1.b i = ρ.b i := hst1'.rb i (lt_of_get hi)
  cases x1 with
  | exit _ => exact hq1.elim
  | ret => exact hq1.elim
  | pan _ => exact hq1.elim
  | normal =>
    simp only [exOk] at hx1; subst hx1
    simp only [asgQ] at hq1
    split at hq1
    case h_2 => exact hq1.elim
    rename_i ps1 asg1 body1 env1 n1 pe1 hn1
    rw [nth_eq] at hn1
    obtain ⟨r1, k1, k2, k3, k4, k5, k6, k7, k8⟩ := hr1.rel.ents i _ hn1
    have hbusy := rel_loop (st' := .busy) (pe' := pe1) hr1.rel hn1 k1
    have hrec : ({ r1 with state := .busy, pending := pe1 } : Loop) = { r1 with state := .busy } := by rw [← k6]
    rw [hrec] at hbusy
    refine ⟨_, run_beginRound (hb1 ▸ k1) k5, ?_⟩
    rw [← hb1]
    have hb1' : ρ1.b i = (ρ.floor 0).b i := hb1
    have hc2 := awp_sound ht body _ _ hq1
    have hs2 : RelS ρ1 ⟨s1.env, setN s1.hp i (.lp ps1 asg1 body1 env1 n1 .busy pe1), s1.n⟩ a1 (w1.putObj (ρ1.b i) (.loop { r1 with state := .busy })) :=
      ⟨hr1.defers.step hr1.rel hbusy.1, hr1.size, hbusy.2, fun t => (hr1.vals t).step hbusy.1⟩
    have hlen2 : (setN s1.hp i (.lp ps1 asg1 body1 env1 n1 .busy pe1)).length = s1.hp.length := by rw [setN_eq]; simp
    have hrd2 : IsRound (some (ρ1.b i)) (w1.putObj (ρ1.b i) (.loop { r1 with state := .busy })) := fun l hl => by
      simp at hl; subst hl; exact ⟨_, World.putObj_heap_same (lt_of_heap k1)⟩
    refine wpIn_mono (hc2 (some (ρ1.b i)) ρ1 a1 _ (by rw [hlen2]; exact hst1'.len) hrd2 hs2) ?_
    rintro e a3 w3 ⟨x3, s3, ρ3, hq3, hx3, hr3, hst3⟩
    have hst3' : StpN σ.length ρ1 (setN s1.hp i (.lp ps1 asg1 body1 env1 n1 .busy pe1)) (w1.putObj (ρ1.b i) (.loop { r1 with state := .busy })) ρ3 s3.hp w3 := by
      exact hst3
    have hi1 : i < σ.length := lt_of_get hi
    have hall : Stp (ρ.floor 0) σ w ρ3 s3.hp w3 := (hst1'.trans' hbusy.1).trans hst3' (Nat.le_refl _)
    have hb3 : ρ3.b i = ρ1.b i := by rw [hall.rb i hi1]; exact hb1.symm
    -- out of the round
    have fin : ∀ {jump : Option Code} {t : Bool} {ps3 : List Nat} {asg3 b3 : Code} {env3 : List (Nat × AV)} {n3 : Nat} {pe3 : Option Code} {st : LoopState}, jump.isNone = t → (if jump.isNone then LoopState.ready else .done) = st → s3.hp[i]? = some (.lp ps3 asg3 b3 env3 n3 .busy pe3) →
        K (.bl t) (setN s3.hp i (.lp ps3 asg3 b3 env3 n3 st jump)) →
        ∃ v w', (Instr.endRound (ρ1.b i) jump).run P w3 = .ok v w' ∧ ∃ ρ' σ', Stp ρ σ w ρ' σ' w' ∧ Rel ρ' σ' w' ∧ ∃ r, K r σ' ∧ Val w' (Stay ρ' σ') ρ' σ'.length r v := by
      intro jump t ps3 asg3 b3 env3 n3 pe3 st ht1 ht2 hn3 hk
      subst ht1 ht2
      obtain ⟨r3, m1, m2, m3, m4, m5, m6, m7, m8⟩ := hr3.rel.ents i _ hn3
      have hend := rel_loop (st' := if jump.isNone then LoopState.ready else .done) (pe' := jump) hr3.rel hn3 m1
      refine ⟨_, _, run_endRound jump (hb3 ▸ m1), ρ3.floor ρ.m, _, ?_, ?_, _, hk, ⟨1, rfl⟩⟩
      · rw [← hb3]
        have := hall.trans' hend.1
        refine ⟨this.os, this.tape, this.output, this.size, fun b ob hb => ?_, fun b o hb ho => floor_own.1 (this.own b o hb (floor_own.1 ho)), this.len, this.rb, this.rt, this.rx, rfl⟩
        obtain ⟨ob', f1, f2⟩ := this.frm b ob hb
        exact ⟨ob', f1, (okBlk.refl (Own ρ σ b) ob).trans f2 fun o ho => floor_own.1 ho⟩
      · rw [← hb3]; exact floor_rel hend.2
    cases x3 with
    | normal =>
      simp only [exOk] at hx3; subst hx3
      simp only [roundQ] at hq3
      split at hq3
      case h_2 => exact hq3.elim
      rename_i hn3
      rw [nth_eq] at hn3
      exact fin rfl rfl hn3 hq3
    | exit id =>
      simp only [exOk] at hx3; subst hx3
      simp only [roundQ] at hq3
      split at hq3
      case h_2 => exact hq3.elim
      rename_i hn3
      rw [nth_eq] at hn3
      exact fin rfl rfl hn3 hq3
    | ret =>
      simp only [exOk] at hx3; subst hx3
      simp only [roundQ] at hq3
      split at hq3
      case h_2 => exact hq3.elim
      rename_i hn3
      rw [nth_eq] at hn3
      exact fin rfl rfl hn3 hq3
    | pan x => exact hq3.elim

/-- What a loop that is over has left to do. -/
def overE : Option Ent → Option (Option Code)
  | some (.lp _ _ _ _ _ st pe) => match st with
    | .busy => none
    | _ => some pe
  | _ => none

theorem overE_some {e : Option Ent} {pe : Option Code} (h : overE e = some pe) : ∃ ps asg body env k st, e = some (.lp ps asg body env k st pe) ∧ st ≠ .busy := by
  unfold overE at h
  split at h
  · split at h
    · simp at h
    · rename_i hne
      simp at h; subst h
      exact ⟨_, _, _, _, _, _, rfl, hne⟩
  · simp at h

/-- What is to hold behind the function that was ranged over. -/
def rangeQ (Q : Ex → St → Prop) (s : St) (m : Nat) (_ : AV) (σ : List Ent) : Prop :=
  match overE (nth σ m) with
  | some none => Q .normal ⟨s.env, setN σ m .dead, s.n⟩
  | some (some (.exit id)) => Q (.exit id) ⟨s.env, setN σ m .dead, s.n⟩
  | some (some .ret) => Q .ret ⟨s.env, setN σ m .dead, s.n⟩
  | _ => False

/-- The loop's record is let go. -/
theorem rel_shut (h : Rel ρ σ w) {i : Nat} {ps : List Nat} {asg body : Code} {env : List (Nat × AV)} {k : Nat} {st : LoopState} {pe : Option Code}
    (hi : σ[i]? = some (.lp ps asg body env k st pe)) {r r' : Loop} (hr : w.heap[ρ.b i]? = some (.loop r)) (hd : r'.defers = r.defers) :
    Stp ρ σ w ρ (setN σ i .dead) (w.putObj (ρ.b i) (.loop r')) ∧ Rel ρ (setN σ i .dead) (w.putObj (ρ.b i) (.loop r')) := by
  have hnew := World.putObj_heap_same (w := w) (o := .loop r') (lt_of_heap hr)
  have oth : ∀ {b : Nat}, b ≠ ρ.b i → (w.putObj (ρ.b i) (.loop r')).heap[b]? = w.heap[b]? := fun h => World.putObj_heap_other h
  have hlen : (setN σ i .dead).length = σ.length := by rw [setN_eq]; simp
  have hown : ∀ b o, Own ρ (setN σ i .dead) b o → Own ρ σ b o := by
    rintro b o ⟨j, f, hj, ho⟩
    rcases get_set hj with ⟨rfl, rfl⟩ | ⟨hne, hj⟩
    · exact ho.elim
    · exact ⟨j, f, hj, ho⟩
  have hst : Stp ρ σ w ρ (setN σ i .dead) (w.putObj (ρ.b i) (.loop r')) := by
    refine ⟨rfl, rfl, rfl, by rw [World.putObj_size]; exact Nat.le_refl _, fun b ob hob => ?_, fun b o _ ho => hown b o ho, by omega, fun _ _ => rfl, fun _ _ => .inl rfl, rfl, rfl⟩
    by_cases hbb : b = ρ.b i
    · subst hbb
      rw [hr] at hob; simp at hob; subst hob
      exact ⟨_, hnew, _, rfl, hd, .inl ⟨i, _, hi, rfl⟩⟩
    · exact ⟨ob, by rw [oth hbb]; exact hob, okBlk.refl _ _⟩
  refine ⟨hst, fun j f hj => ?_, fun j l f g b o hj hl hf hg => ?_, fun b o ho => by rw [World.putObj_size]; exact h.xlt b o ho, fun b o ho => h.xown b o (hown b o ho)⟩
  · rcases get_set hj with ⟨rfl, rfl⟩ | ⟨hne, hj⟩
    · trivial
    · refine (h.ents j f hj).keep hst.keeps (lt_of_get hj) rfl (fun hk => ?_) (fun hp hlt c e' f' hc => ?_)
      · refine oth fun e => hne ?_
        refine h.disj j i f _ (ρ.b i) 0 hj hi ?_ rfl
        cases f <;> simp_all [Ent.blk, OwnE]
      · refine ⟨c, ?_, rfl, fun _ _ _ => rfl⟩
        rw [oth fun e => by rw [e, hr] at hc; simp at hc]; exact hc
  · rcases get_set hj with ⟨rfl, rfl⟩ | ⟨hne, hj⟩
    · exact hf.elim
    · rcases get_set hl with ⟨rfl, rfl⟩ | ⟨hne', hl⟩
      · exact hg.elim
      · exact h.disj j l f g b o hj hl hf hg

/-- A loop over a function. -/
theorem range_at {J : Jd} (hJ : J = std P n₀) {g : Operand} {ps : Array Tmp} {asg body : Code} {Q : Ex → St → Prop} {s : St} {f : FuncId} {caps : List AV} (hg : s.ev g = .func f caps) 
    (h : CallA P f (.yld (lenN s.hp) :: caps) (snoc s.hp (.lp ps.toList asg body s.env s.n .ready none)) (rangeQ Q s (lenN s.hp)) (fun _ _ => False)) : J.code (.rangeFunc g ps asg body) Q s := by
  subst hJ
  intro rd ρ a w hn₀ hrd hs
  have hgv := ev_val hs g
  rw [hg] at hgv
  obtain ⟨cs, hcv, hcs⟩ := val_func hgv
  rw [lenN_eq, snoc_eq] at h
  obtain ⟨⟨fn, c, hfn, hbody, hname⟩, hcall⟩ := h
  have inv : ∀ (args : Array Value) (w : World), (callFunc f args).run P w = .ok (.enter f args) w := by
    intro args w
    simp only [callFunc, Sem.run_bind, run_program, Result.andThen_ok, hfn, hname, hbody, Option.isNone_some, Bool.false_eq_true, if_false, Sem.run_pure]
  refine wpIn_rangeFunc fun fn' _ => ?_
  -- the record, the marks
  have key : ∀ (l : Nat) (mark : List Deferred) (w1 : World) (rec : Loop), (Instr.enterLoop fn' a.tmps ps asg body rd).run P w = .ok (l, mark) w1 → w1.heap[l]? = some (.loop rec) → rec.params = ps → rec.assign = asg → rec.body = body → rec.state = .ready → rec.pending = none → rec.tmps = a.tmps →
      w1.os = w.os → w1.tape = w.tape → w1.output = w.output → (∀ (k : Nat) ob, w.heap[k]? = some ob → w1.heap[k]? = some ob) → w.heap.size ≤ l → w.heap.size ≤ w1.heap.size → Marks ρ.m w1 (mark ++ a.defers) →
      ∃ (l : Nat) (mark : List Deferred) (w₁ : World) (d : Deferred) (w₁' : World) (f : FuncId) (args : Array Value) (w₂ : World),
      (Instr.enterLoop fn' a.tmps ps asg body (fen rd).round).run P w = .ok (l, mark) w₁ ∧ (resolve a.eval (rangeCall g l) 0).run P w₁ = .ok d w₁' ∧ (∀ f', Target.leads P w₁' d.target d.args = some f' → (fen rd).fn f') ∧
      (invoke d.target d.args).run P w₁' = .ok (.enter f args) w₂ ∧ ((fen rd).depth.isSome = true → 1 ≤ 0) ∧
      CallsIn (fen rd) (0 - 1) P f args w₂ (rangePost (fen rd) 0 P l (Post n₀ ρ s.hp w Q) { a with defers := mark ++ a.defers }) := by
    intro l mark w1 rec he hl hp1 hp2 hp3 hp4 hp5 hp6 hos htape hout hh hlo hsz hmk
    obtain ⟨ρ1, hρ1⟩ : ∃ ρ1 : Ro, ρ1 = ρ.add s.hp.length l := ⟨_, rfl⟩
    have hpush := hs.rel.push (ρ' := ρ1) (w' := w1) (e := .lp ps.toList asg body s.env s.n .ready none) (fun i hi => by rw [hρ1]; simp [Ro.add]; omega) (fun _ _ => by rw [hρ1]; rfl) (by rw [hρ1]; rfl) (by rw [hρ1]; rfl) hos htape hout hh hsz
      (fun b o ho => by rw [hρ1] at ho; simp only [OwnE, Ro.add, if_true] at ho; omega)
      (fun hst => ⟨rec, by rw [hρ1]; simp only [Ro.add, if_true]; exact hl, by rw [hp1], hp2, hp3, hp4, hp5, by rw [hp6]; exact hs.size, fun t => by rw [hp6]; exact (hs.vals t).step hst⟩)
    have hargs : All2 (Val w1 (Stay ρ1 (s.hp ++ [.lp ps.toList asg body s.env s.n .ready none])) ρ1 (s.hp ++ [Ent.lp ps.toList asg body s.env s.n .ready none]).length) (.yld s.hp.length :: caps) (.func (.yield l) #[] #[] :: cs) := by
      refine ⟨⟨1, ?_⟩, hcs.imp fun _ _ h => h.step hpush.1⟩
      refine ⟨by simp, ?_⟩
      rw [hρ1]; simp [Ro.add]
    have hc := hcall ρ1 w1 (.func (.yield l) #[] #[] :: cs) hpush.2 hargs
    refine ⟨l, mark, w1, { target := .fn (.func f) cs.toArray, args := #[.func (.yield l) #[] #[]] }, w1, f, (.func (.yield l) #[] #[] :: cs).toArray, w1, he, ?_, fun _ _ => trivial, ?_, fun hn => by simp [fen, Fence.wide] at hn, ?_⟩
    · simp only [resolve, hcv]
      simp [Act.eval, Deferred.ofValue]
    · simp [invoke, inv]
    · refine (callsIn_fen hc).mono ?_
      rintro en w3 ⟨ρ3, σ3, hst3, hrel3, hen⟩
      cases en with
      | panicked ch => obtain ⟨_, _, _, hf, _⟩ := hen; exact hf.elim
      | outgrown => exact hen.elim
      | returned v =>
        obtain ⟨r, hq, _⟩ := hen
        have hlb : ρ3.b s.hp.length = l := by rw [hst3.rb _ (by simp), hρ1]; simp [Ro.add]
        unfold rangeQ at hq
        rw [nth_eq] at hq
        have out : ∀ {ps' : List Nat} {asg' body' : Code} {env' : List (Nat × AV)} {k' : Nat} {st' : LoopState} {pe' : Option Code} {r3 : Loop}, σ3[s.hp.length]? = some (.lp ps' asg' body' env' k' st' pe') → w3.heap[ρ3.b s.hp.length]? = some (.loop r3) →
            RelS ρ3 ⟨s.env, setN σ3 s.hp.length .dead, s.n⟩ { a with defers := mark ++ a.defers } (w3.putObj l (.loop { r3 with state := .exhausted })) ∧
            StpN n₀ ρ s.hp w ρ3 (setN σ3 s.hp.length .dead) (w3.putObj l (.loop { r3 with state := .exhausted })) ∧ IsRound rd (w3.putObj l (.loop { r3 with state := .exhausted })) := by
          intro ps' asg' body' env' k' st' pe' r3 hn3 hr3
          have hsh := rel_shut (r' := { r3 with state := .exhausted }) hrel3 hn3 hr3 rfl
          rw [hlb] at hsh
          have hall := (hpush.1.trans hst3 (by simp)).trans' hsh.1
          refine ⟨⟨?_, hs.size, hsh.2, fun t => (hs.vals t).step hall⟩, hall.le hn₀, hrd.step hall⟩
          have hm : ρ3.m = ρ.m := hall.rm
          show Marks ρ3.m _ _
          rw [hm]
          exact (hmk.step hpush.2 hst3).step hrel3 hsh.1
        have hend : ∀ {ps' : List Nat} {asg' body' : Code} {env' : List (Nat × AV)} {k' : Nat} {st' : LoopState} {pe' : Option Code}, σ3[s.hp.length]? = some (.lp ps' asg' body' env' k' st' pe') → st' ≠ .busy →
            ∃ r3 : Loop, w3.heap[ρ3.b s.hp.length]? = some (.loop r3) ∧ (Instr.endLoop l).run P w3 = .ok pe' (w3.putObj l (.loop { r3 with state := .exhausted })) := by
          intro ps' asg' body' env' k' st' pe' hn3 hbz
          obtain ⟨r3, m1, m2, m3, m4, m5, m6, m7, m8⟩ := hrel3.ents _ _ hn3
          refine ⟨r3, m1, ?_⟩
          have := run_endLoop (P := P) (hlb ▸ m1) (by rw [m5]; exact hbz)
          rw [← m6]; exact this
        split at hq
        · rename_i he3
          obtain ⟨_, _, _, _, _, _, hn3, hnb⟩ := overE_some he3
          obtain ⟨r3, m1, m2⟩ := hend hn3 hnb
          obtain ⟨o1, o2, o3⟩ := out hn3 m1
          exact ⟨_, _, m2, .normal, _, ρ3, hq, rfl, o1, o2⟩
        · rename_i he3
          obtain ⟨_, _, _, _, _, _, hn3, hnb⟩ := overE_some he3
          obtain ⟨r3, m1, m2⟩ := hend hn3 hnb
          obtain ⟨o1, o2, o3⟩ := out hn3 m1
          exact ⟨_, _, m2, wpIn_exit ⟨.exit _, _, ρ3, hq, rfl, o1, o2⟩⟩
        · rename_i he3
          obtain ⟨_, _, _, _, _, _, hn3, hnb⟩ := overE_some he3
          obtain ⟨r3, m1, m2⟩ := hend hn3 hnb
          obtain ⟨o1, o2, o3⟩ := out hn3 m1
          exact ⟨_, _, m2, wpIn_ret ⟨.ret, _, ρ3, hq, rfl, o1, o2⟩⟩
        · exact hq.elim
  cases rd with
  | none =>
    refine key _ _ _ _ (run_enterLoop_outer fn' a.tmps ps asg body) (by rw [show w.heap.size + 1 = (w.alloc (.deferred (some []))).heap.size by simp]; exact World.alloc_heap_new _ _) rfl rfl rfl rfl rfl rfl rfl rfl rfl
      (fun k ob hk => heap_alloc_old (heap_alloc_old hk)) (by omega) (by simp; omega) ?_
    have hfl : ρ.m ≤ w.heap.size := by
      have : ∀ {ds : List Deferred}, Marks ρ.m w ds → ρ.m ≤ w.heap.size := by
        intro ds
        induction ds with
        | nil => exact id
        | cons d ds ih => exact fun h => ih h.2
      exact this hs.defers
    refine ⟨⟨w.heap.size, rfl, hfl, heap_alloc_old (World.alloc_heap_new _ _), fun d' hd he => ?_⟩, ?_⟩
    · subst he
      have : ∀ {ds : List Deferred}, Marks ρ.m w ds → ∀ D, ({ target := .collected D, args := #[] } : Deferred) ∈ ds → D < w.heap.size := by
        intro ds
        induction ds with
        | nil => intro _ D h; simp at h
        | cons d ds ih =>
          rintro ⟨⟨D', h1, h2, h3, h4⟩, h5⟩ D hD
          rcases List.mem_cons.1 hD with e | e
          · rw [h1] at e; simp at e; subst e; exact lt_of_heap h3
          · exact ih h5 D e
      have := this hs.defers _ hd
      omega
    · have st1 : ∀ {ds : List Deferred}, Marks ρ.m w ds → Marks ρ.m ((w.alloc (.deferred (some []))).alloc (.loop { state := .ready, pending := none, fn := fn', tmps := a.tmps, params := ps, assign := asg, body, defers := w.heap.size })) ds := by
        intro ds
        induction ds with
        | nil => intro h; exact Nat.le_trans h (by simp; omega)
        | cons d ds ih => rintro ⟨⟨D', h1, h2, h3, h4⟩, h5⟩; exact ⟨⟨D', h1, h2, heap_alloc_old (heap_alloc_old h3), h4⟩, ih h5⟩
      exact st1 hs.defers
  | some l₀ =>
    obtain ⟨q, hq⟩ := hrd l₀ rfl
    refine key _ _ _ _ (run_enterLoop_inner hq fn' a.tmps ps asg body) (World.alloc_heap_new _ _) rfl rfl rfl rfl rfl rfl rfl rfl rfl (fun k ob hk => heap_alloc_old hk) (Nat.le_refl _) (by simp) ?_
    have st1 : ∀ {ds : List Deferred}, Marks ρ.m w ds → Marks ρ.m (w.alloc (.loop { state := .ready, pending := none, fn := fn', tmps := a.tmps, params := ps, assign := asg, body, defers := q.defers })) ds := by
      intro ds
      induction ds with
      | nil => intro h; exact Nat.le_trans h (by simp)
      | cons d ds ih => rintro ⟨⟨D', h1, h2, h3, h4⟩, h5⟩; exact ⟨⟨D', h1, h2, heap_alloc_old h3, h4⟩, ih h5⟩
    exact st1 hs.defers

end
end Go.Pt
