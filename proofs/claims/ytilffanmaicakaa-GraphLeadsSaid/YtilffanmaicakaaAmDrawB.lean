/- A region whose order is drawn: from this machine's order to all orders. -/
import Derived.Test.YtilffanmaicakaaAmDraw
namespace Go.Pt
open Go

section
variable {P : Program} {n₀ : Nat} {tab : Nat → Ty} {J : Jd}

def relTag (tab : Nat → Ty) (r : List (Nat × Oper)) (i : Nat) (q : Oper) : Bool := match clsOf tab q.op with
  | 2 => alone r [i]
  | _ => false

def tagged (tab : Nat → Ty) : List (Nat × Oper) → List Left
  | [] => []
  | (i, q) :: r => (relTag tab r i q, i, q) :: tagged tab r

theorem dummy_val {tab : Nat → Ty} {op : Op} {w : World} {S : Nat → Nat → Prop} {ρ : Ro} {n : Nat} : Val w S ρ n (dummy tab op) undef := by
  unfold dummy
  split
  · split
    · exact undef_val
    · exact Val.junk
  · exact Val.junk

theorem dumb_val {tab : Nat → Ty} {q : Oper} {w : World} {S : Nat → Nat → Prop} {ρ : Ro} {n : Nat} : Val w S ρ n (dumb tab q) undef := by
  unfold dumb
  split
  · exact undef_val
  · exact Val.junk

theorem okAcc_no {es : List Edge} {acc : List (Nat × Fp)} : okAcc acc es .no = true := okAcc_iff.2 fun x _ h => by cases h' : x.2 <;> rw [h'] at h <;> simp [clash] at h

theorem fpR_go {op : Op} {s : St} (h : List Ent) : (fpR op s).go h = h := by
  unfold fpR
  repeat' split
  all_goals rfl

theorem DoesC.mono {ops : Array Oper} {i : Nat} {q : Oper} {s : St} {Φ Ψ : AV → List Ent → Prop} (h : DoesC P ops i q s Φ) (hm : ∀ v h', Φ v h' → Ψ v h') : DoesC P ops i q s Ψ :=
  fun s' ha hp rd ρ a w Q next hs hn => h s' ha hp rd ρ a w Q next hs fun v h' ρ' a' w' hΦ => hn v h' ρ' a' w' (hm v h' hΦ)

theorem DoesC.off {ops : Array Oper} {i : Nat} {q : Oper} {s : St} {d : AV} (hd : ∀ {w : World} {S : Nat → Nat → Prop} {ρ : Ro} {n : Nat}, Val w S ρ n d undef) (hq : ops[i]? = some q) (hf : fits q.dst s.n = true) (hw : Wanted ops q s false) : DoesC P ops i q s fun v h' => v = d ∧ h' = s.hp := by
  intro s' ha hp rd ρ a w Q next hs hn
  have hf' : fits q.dst s'.n = true := by rw [ha.n]; exact hf
  unfold wpOpIn
  simp only [hq]
  rw [if_neg (by rw [hw s' ha ρ a w hs]; simp)]
  refine ⟨fun _ _ => trivial, ?_⟩
  rw [← hp] at hn
  exact hn _ _ ρ _ w ⟨rfl, rfl⟩ (put_rel hs hf' hd (Stp.refl _ _ _) hs.rel) (Stp.refl _ _ _)

theorem cls0 {op : Op} (h : clsOf tab op = 0) : sureOp tab op = true := by
  unfold clsOf at h
  repeat' split at h
  all_goals first | assumption | simp at h
theorem cls1 {op : Op} (h : clsOf tab op = 1) : readOp op = true := by
  unfold clsOf at h
  repeat' split at h
  all_goals first | assumption | simp at h

theorem frames_self {es : List Edge} {h : List Ent} {acc : List (Nat × Fp)} (hq : quietAcc acc es = true) : framesP acc es h h :=
  framesP_iff.2 fun x hx he => (quiet_iff.1 hq x hx he).imp id fun ⟨id, e⟩ => ⟨id, e, rfl⟩

theorem aopG_read {op : Op} (hr : readOp op = true) {g : Bool} {s : St} {K E : AV → List Ent → Prop} : aopG J tab g op s K E = aop J tab op s K E := by
  cases op <;> simp [readOp] at hr <;> rfl

theorem cls2 {op : Op} (h : clsOf tab op = 2) : isCall op = true := by
  unfold clsOf at h
  repeat' split at h
  all_goals first | assumption | simp at h

theorem call_same {op : Op} (h : isCall op = true) {s s' : St} (he : ∀ x ∈ op.operands, s'.ev x = s.ev x) (hp : s'.hp = s.hp) {K E : AV → List Ent → Prop} (ha : aop J tab op s K E) : aop J tab op s' K E := by
  unfold isCall at h
  split at h
  · rename_i f args ts
    have e1 := he f (by simp [Op.operands, Call.operands])
    have e3 : evs s' args.toList = evs s args.toList := evs_eq' fun x hx => he x (by simp [Op.operands, Call.operands]; right; simpa using hx)
    simp only [aop, e1, e3, hp] at ha ⊢
    exact ha
  · simp at h

theorem run_of (ht : TabOk P tab) {ops : Array Oper} {n : Nat} {F : Prop} (hF : ¬F) {K : St → Prop} : ∀ {r : List (Nat × Oper)} {acc : List (Nat × Fp)} {s : St}, (∀ x ∈ r, ops[x.1]? = some x.2) → s.n = n →
    drawK (std P n₀) tab ops.toList (lenN ops.toList) F r acc s K → Run P ops n K acc (tagged tab r) s
  | [], _, s, _, _, h => ⟨s, h, Like.refl _⟩
  | (i, q) :: r, acc, s, hd, hn, h => by
    have hq : ops[i]? = some q := hd _ List.mem_cons_self
    have hd' : ∀ x ∈ r, ops[x.1]? = some x.2 := fun x hx => hd x (List.mem_cons_of_mem _ hx)
    simp only [drawK] at h
    split at h
    · exact absurd h hF
    rename_i h2
    split at h
    · exact absurd h hF
    rename_i h3
    split at h
    · exact absurd h hF
    rename_i h4
    split at h
    · exact absurd h hF
    rename_i h5
    have fx : (∀ j b d, q.guard = some (j, b) → (nth ops.toList j).bind (·.dst) = some d → waits ops.toList i q.after.toList [.tmp d] = true) → Fixed ops.toList n i q :=
      fun hg => ⟨by simpa using hq, hg, hn ▸ h2, by rw [← lenN_eq]; exact h3, h4, h5⟩
    -- one result
    have go : ∀ {v fp}, (∀ j b d, q.guard = some (j, b) → (nth ops.toList j).bind (·.dst) = some d → waits ops.toList i q.after.toList [.tmp d] = true) → relTag tab r i q = false → Does P ops i q s v fp → Looks fp s.hp s.hp → okAcc acc q.after.toList fp = true →
        drawK (std P n₀) tab ops.toList (lenN ops.toList) F r ((i, fp) :: acc) (s.put q.dst v (fp.go s.hp)) K → Run P ops n K acc (tagged tab ((i, q) :: r)) s := by
      intro v fp hg hr hdo hl hok hk
      simp only [tagged, hr]
      exact ⟨fx hg, v, fp, hdo, hl, hok, run_of ht hF hd' (by rw [put_n]; exact hn) hk⟩
    -- some result
    have goC : ∀ {Φ : AV → List Ent → Prop}, (∀ j b d, q.guard = some (j, b) → (nth ops.toList j).bind (·.dst) = some d → waits ops.toList i q.after.toList [.tmp d] = true) → relTag tab r i q = true → quietAcc acc q.after.toList = true → DoesC P ops i q s Φ →
        (∀ v h', Φ v h' → framesP acc q.after.toList s.hp h' ∧ drawK (std P n₀) tab ops.toList (lenN ops.toList) F r acc (s.put q.dst v h') K) → Run P ops n K acc (tagged tab ((i, q) :: r)) s := by
      intro Φ hg hr hqt hdo hk
      simp only [tagged, hr]
      exact ⟨fx hg, hqt, hdo.mono fun v h' hΦ => ⟨(hk v h' hΦ).1, run_of ht hF hd' (by rw [put_n]; exact hn) (hk v h' hΦ).2⟩⟩
    have tagC : ∀ {c : Nat}, clsOf tab q.op = c → c ≠ 2 → relTag tab r i q = false := by
      intro c hc hne
      unfold relTag
      split
      · rename_i e; omega
      · rfl
    have tagA : clsOf tab q.op = 2 → relTag tab r i q = alone r [i] := by
      intro hc; simp only [relTag, hc]
    have ovs : ∀ {o : List (Nat × AV)} {s' : St}, Agree ops.toList q s s' → ∀ x ∈ q.op.operands, (s'.over o).ev x = (s.over o).ev x := fun ha x hx => ev_over (ha.ev x hx)
    -- a pure call
    have pureC : ∀ {o : List (Nat × AV)} {f : Operand} {args ts} {fn caps} {v : AV}, q.op = .call ⟨.value f, args, ts⟩ → (s.over o).ev f = .func fn caps → (∀ (h : List Ent) (K E : AV → List Ent → Prop), K v h → (std P n₀).call fn (evs (s.over o) args.toList ++ caps) h K E) →
        ∀ s' : St, Agree ops.toList q s s' → ∀ K E : AV → List Ent → Prop, K v s'.hp → aop (std P n₀) tab q.op (s'.over o) K E := by
      intro o f args ts fn caps v hop hgf hv s' ha K' E' hk'
      have he := ovs (o := o) ha
      rw [hop] at he ⊢
      have e1 := he f (by simp [Op.operands, Call.operands])
      have e3 : evs (s'.over o) args.toList = evs (s.over o) args.toList := evs_eq' fun x hx => he x (by simp [Op.operands, Call.operands]; right; simpa using hx)
      simp only [aop, e1, hgf, e3]
      exact hv _ _ _ hk'
    split at h
    · rename_i hg
      have nog : ∀ j b d, q.guard = some (j, b) → (nth ops.toList j).bind (·.dst) = some d → waits ops.toList i q.after.toList [.tmp d] = true := by
        intro j b d e; rw [hg] at e; simp at e
      have hw : Wanted ops q s true := Wanted.none hg
      split at h
      · rename_i hc
        obtain ⟨o, h, ho⟩ := strip_sure h
        obtain ⟨v, hk, hv⟩ := sure_of (cls0 hc) h
        exact go nog (tagC hc (by omega)) (Does.on (n₀ := n₀) (fp := .no) ht hq h2 hw ho fun s' ha _ K' E' hk' => hv (s'.over o) (ovs ha) _ _ hk') trivial okAcc_no hk
      · rename_i hc
        obtain ⟨o, h, ho⟩ := strip_sure h
        split at h
        · exact absurd h hF
        rename_i hok
        obtain ⟨v, hk, hl, hv⟩ := read_of (cls1 hc) h
        refine go nog (tagC hc (by omega)) (Does.on (n₀ := n₀) ht hq h2 hw ho fun s' ha hl' K' E' hk' => ?_) hl hok (by rw [fpR_go]; exact hk)
        rw [fpR_go] at hk'
        exact hv (s'.over o) (ovs ha) hl' _ _ hk'
      · rename_i hc
        obtain ⟨o, h, ho⟩ := strip_sure h
        split at h
        · rename_i hal
          split at h
          · exact absurd h hF
          rename_i hqt
          refine goC nog ((tagA hc).trans hal) hqt (DoesC.on (n₀ := n₀) ht hq h2 hw ho fun s' ha hp => ?_) fun v h' hΦ => hΦ
          exact call_same (cls2 hc) (ovs ha) hp h
        · rename_i hal
          split at h
          · rename_i f args ts hop
            split at h
            · rename_i fn caps hgf
              obtain ⟨v, hv, hk⟩ := h
              exact go nog ((tagA hc).trans hal) (Does.on (n₀ := n₀) (fp := .no) ht hq h2 hw ho fun s' ha _ K' E' hk' => pureC hop hgf hv s' ha _ _ hk') trivial okAcc_no hk
            · exact absurd h hF
          · exact absurd h hF
      · rename_i hc0 hc1 hc2
        obtain ⟨o, h, ho⟩ := strip_sure h
        rcases write_of h with h | ⟨v, fp, hk, hl, hv⟩
        · exact absurd h hF
        split at hk
        · exact absurd hk hF
        rename_i hok
        exact go nog (tagC rfl hc2) (Does.on (n₀ := n₀) ht hq h2 hw ho fun s' ha hl' K' E' hk' => hv (s'.over o) (ovs ha) hl' _ _ hk') hl hok hk
    · rename_i j b hg
      split at h
      · exact absurd h hF
      rename_i d hd
      split at h
      · exact absurd h hF
      rename_i hwt
      have isg : ∀ j b d, q.guard = some (j, b) → (nth ops.toList j).bind (·.dst) = some d → waits ops.toList i q.after.toList [.tmp d] = true := by
        intro j' b' d' e e'
        rw [hg] at e; simp only [Option.some.injEq, Prod.mk.injEq] at e
        obtain ⟨rfl, rfl⟩ := e
        rw [hd] at e'; simp only [Option.some.injEq] at e'; subst e'; exact hwt
      split at h
      · exact absurd h hF
      rename_i g hgo
      have hw : Wanted ops q s g := Wanted.of hg hd hgo
      split at h
      · rename_i hc
        split at h
        · obtain ⟨o, h, ho⟩ := strip_sure h
          obtain ⟨v, hk, hv⟩ := sureG_of (cls0 hc) h
          exact go isg (tagC hc (by omega)) (Does.guarded (n₀ := n₀) (fp := .no) ht hq h2 hw (fun _ => rfl) ho fun s' ha _ hgt K' E' hk' => aopG_aop (hv (s'.over o) (ovs ha) _ _ hk') hgt) trivial okAcc_no hk
        · cases g with
          | true =>
            obtain ⟨o, h, ho⟩ := strip_sure (h.1 rfl)
            obtain ⟨v, hk, hv⟩ := sure_of (cls0 hc) h
            exact go isg (tagC hc (by omega)) (Does.on (n₀ := n₀) (fp := .no) ht hq h2 hw ho fun s' ha _ K' E' hk' => hv (s'.over o) (ovs ha) _ _ hk') trivial okAcc_no hk
          | false => exact go isg (tagC hc (by omega)) (Does.off hq h2 hw dummy_val) trivial okAcc_no (h.2 rfl)
      · rename_i hc
        split at h
        · obtain ⟨o, h, ho⟩ := strip_sure h
          split at h
          · exact absurd h hF
          rename_i hok
          rw [aopG_read (cls1 hc)] at h
          obtain ⟨v, hk, hl, hv⟩ := read_of (cls1 hc) h
          refine go isg (tagC hc (by omega)) (Does.guarded (n₀ := n₀) ht hq h2 hw fpR_go ho fun s' ha hl' hgt K' E' hk' => ?_) hl hok (by rw [fpR_go]; exact hk)
          exact hv (s'.over o) (ovs ha) hl' _ _ hk'
        · cases g with
          | true =>
            obtain ⟨o, h, ho⟩ := strip_sure (h.1 rfl)
            split at h
            · exact absurd h hF
            rename_i hok
            obtain ⟨v, hk, hl, hv⟩ := read_of (cls1 hc) h
            refine go isg (tagC hc (by omega)) (Does.on (n₀ := n₀) ht hq h2 hw ho fun s' ha hl' K' E' hk' => ?_) hl hok (by rw [fpR_go]; exact hk)
            rw [fpR_go] at hk'
            exact hv (s'.over o) (ovs ha) hl' _ _ hk'
          | false => exact go isg (tagC hc (by omega)) (Does.off hq h2 hw Val.junk) trivial okAcc_no (h.2 rfl)
      · rename_i hc
        split at h
        · rename_i hal
          split at h
          · exact absurd h hF
          rename_i hqt
          cases g with
          | true =>
            obtain ⟨o, h, ho⟩ := strip_sure (h.1 rfl)
            refine goC isg ((tagA hc).trans hal) hqt (DoesC.on (n₀ := n₀) ht hq h2 hw ho fun s' ha hp => ?_) fun v h' hΦ => hΦ
            exact call_same (cls2 hc) (ovs ha) hp h
          | false => exact goC isg ((tagA hc).trans hal) hqt (DoesC.off (d := dumb tab q) dumb_val hq h2 hw) fun v h' ⟨e1, e2⟩ => by subst e1 e2; exact ⟨frames_self hqt, h.2 rfl⟩
        · rename_i hal
          obtain ⟨o, h, ho⟩ := strip_sure h
          split at h
          · rename_i f args ts hop
            split at h
            · rename_i fn caps hgf
              obtain ⟨v, hv, hk⟩ := h
              exact go isg ((tagA hc).trans hal) (Does.guarded (n₀ := n₀) (fp := .no) ht hq h2 hw (fun _ => rfl) ho fun s' ha _ hgt K' E' hk' => pureC hop hgf hv s' ha _ _ hk') trivial okAcc_no hk
            · exact absurd h hF
          · exact absurd h hF
      · rename_i hc0 hc1 hc2
        cases g with
        | true =>
          obtain ⟨o, h, ho⟩ := strip_sure (h.1 rfl)
          rcases write_of h with h | ⟨v, fp, hk, hl, hv⟩
          · exact absurd h hF
          split at hk
          · exact absurd hk hF
          rename_i hok
          exact go isg (tagC rfl hc2) (Does.on (n₀ := n₀) ht hq h2 hw ho fun s' ha hl' K' E' hk' => hv (s'.over o) (ovs ha) hl' _ _ hk') hl hok hk
        | false => exact go isg (tagC rfl hc2) (Does.off hq h2 hw Val.junk) trivial okAcc_no (h.2 rfl)


theorem noneIn_iff {es : List Edge} : ∀ {l : List (Nat × Oper)}, noneIn es l = true ↔ ∀ x ∈ l, hasEdge es x.1 = false
  | [] => by simp [noneIn]
  | (j, q) :: r => by
    simp only [noneIn, List.mem_cons, forall_eq_or_imp]
    split
    · rename_i h; simp [h]
    · rename_i h; rw [noneIn_iff]; simp [h]

theorem pickOf_of {c : Nat} {all : List (Nat × Oper)} : ∀ {l : List (Nat × Oper)} {x : Nat × Oper} {r : List (Nat × Oper)}, pickOf tab c all l = some (x, r) → (x :: r).Perm l ∧ noneIn x.2.after.toList all = true
  | [], _, _, h => by simp [pickOf] at h
  | y :: l, x, r, h => by
    have rest : ∀ {o : Option ((Nat × Oper) × List (Nat × Oper))}, o = pickOf tab c all l → (match o with | some (z, l) => some (z, y :: l) | none => none) = some (x, r) → (x :: r).Perm (y :: l) ∧ noneIn x.2.after.toList all = true := by
      intro o ho h
      split at h
      · rename_i z m
        simp only [Option.some.injEq, Prod.mk.injEq] at h
        obtain ⟨rfl, rfl⟩ := h
        obtain ⟨h1, h2⟩ := pickOf_of ho.symm
        exact ⟨(List.Perm.swap _ _ _).trans (h1.cons _), h2⟩
      · simp at h
    simp only [pickOf] at h
    split at h
    · split at h
      · rename_i h2
        simp only [Option.some.injEq, Prod.mk.injEq] at h
        obtain ⟨rfl, rfl⟩ := h
        exact ⟨List.Perm.refl _, h2⟩
      · exact rest rfl h
    · exact rest rfl h

theorem pick4_of {l : List (Nat × Oper)} {x : Nat × Oper} {r : List (Nat × Oper)} (h : pick4 tab l = some (x, r)) : (x :: r).Perm l ∧ noneIn x.2.after.toList l = true := by
  unfold pick4 at h
  split at h
  · rename_i e; cases h; exact pickOf_of e
  split at h
  · rename_i e; cases h; exact pickOf_of e
  split at h
  · rename_i e; cases h; exact pickOf_of e
  exact pickOf_of h

theorem orderOf_of : ∀ {n : Nat} {l m : List (Nat × Oper)}, orderOf tab n l = some m → m.Perm l ∧ m.Pairwise (fun x y => hasEdge x.2.after.toList y.1 = false) ∧ ∀ x ∈ m, hasEdge x.2.after.toList x.1 = false
  | _, [], m, h => by
    have : m = [] := by cases ‹Nat› <;> simp [orderOf] at h <;> exact h
    subst this; simp
  | 0, x :: l, m, h => by simp [orderOf] at h
  | n + 1, y :: l, m, h => by
    simp only [orderOf] at h
    split at h
    · simp at h
    rename_i x r hp
    split at h
    · simp at h
    rename_i m' hm
    simp only [Option.some.injEq] at h
    subst h
    obtain ⟨h1, h2⟩ := pick4_of hp
    obtain ⟨h3, h4, h5⟩ := orderOf_of hm
    have h2 := noneIn_iff.1 h2
    refine ⟨(h3.cons x).trans h1, List.pairwise_cons.2 ⟨fun z hz => h2 z (h1.subset (List.mem_cons_of_mem _ (h3.subset hz))), h4⟩, fun z hz => ?_⟩
    rcases List.mem_cons.1 hz with e | e
    · subst e; exact h2 z (h1.subset List.mem_cons_self)
    · exact h5 z e

theorem numbered_eq : ∀ {i : Nat} {l : List Oper}, numbered i l = (l.zipIdx i).map fun x => (x.2, x.1)
  | _, [] => rfl
  | i, q :: l => by simp only [numbered, List.zipIdx_cons, List.map_cons]; rw [numbered_eq]

theorem tagged_map : ∀ {l : List (Nat × Oper)}, (tagged tab l).map (·.2) = l
  | [] => rfl
  | (i, q) :: r => by simp only [tagged, List.map_cons]; rw [tagged_map]

theorem alones_tagged : ∀ {l : List (Nat × Oper)}, Alones (tagged tab l)
  | [] => trivial
  | (i, q) :: r => ⟨fun e => by
      rw [tagged_map]
      unfold relTag at e
      split at e
      · exact e
      · simp at e, alones_tagged⟩

theorem drew_rel {ρ : Ro} {s : St} {a : Act} {w : World} (k : Nat) (h : RelS ρ s a w) : RelS ρ s a { w with drawn := k } := by
  have hr := rel_same (w' := { w with drawn := k }) h.rel rfl rfl rfl rfl
  exact ⟨h.defers.step h.rel hr.1, h.size, hr.2, fun t => (h.vals t).step hr.1⟩

theorem mem_numbered {ops : Array Oper} {x : Nat × Oper} : x ∈ numbered 0 ops.toList ↔ ops[x.1]? = some x.2 := by
  obtain ⟨i, q⟩ := x
  rw [numbered_eq]
  simp only [List.mem_map, Prod.mk.injEq, Prod.exists]
  constructor
  · rintro ⟨a, b, hm, rfl, rfl⟩
    have := List.mem_zipIdx_iff_getElem?.1 hm
    simpa using this
  · intro h
    exact ⟨q, i, List.mem_zipIdx_iff_getElem?.2 (by simpa using h), rfl, rfl⟩

theorem draw_sound {rd : Option Nat} (ht : TabOk P tab) {id : Nat} {ops : Array Oper} {F : Prop} (hF : ¬F) {K : St → Prop} {s : St} {a : Act} {w : World} {ρ : Ro} {Q : Exit → Act → World → Prop}
    (h : drawR (std P n₀) tab ops.toList F s K) (hs : RelS ρ s a w)
    (hf : ∀ f ρ' a' w', K f → RelS ρ' f a' w' → Stp ρ s.hp w ρ' f.hp w' → Q .normal a' w') : (Code.region id ops true).wpIn (fen rd) 0 P Q a w := by
  unfold drawR at h
  split at h
  · exact absurd h hF
  rename_i r hr
  obtain ⟨hp, h1, h2⟩ := orderOf_of hr
  have his : ∀ x ∈ r, ops[x.1]? = some x.2 := fun x hx => mem_numbered.1 (hp.subset hx)
  have hrun := run_of (n := s.n) ht hF his rfl h
  have hnd : r.Pairwise fun x y => x.1 ≠ y.1 := by
    have h0 : (numbered 0 ops.toList).Pairwise fun x y => x.1 ≠ y.1 := by
      rw [numbered_eq, List.pairwise_map]
      have key : ∀ (l : List Oper) (k : Nat), (l.zipIdx k).Pairwise fun x y => x.2 ≠ y.2 := by
        intro l
        induction l with
        | nil => intro k; simp
        | cons x l ih =>
          intro k
          simp only [List.zipIdx_cons, List.pairwise_cons]
          refine ⟨fun y hy => ?_, ih _⟩
          have := List.le_snd_of_mem_zipIdx hy
          omega
      exact key _ 0
    exact hp.symm.pairwise h0 fun h => h.symm
  have hlen : r.length = ops.size := by
    rw [hp.length_eq, numbered_eq]; simp
  refine wpIn_region_any ht.mixed ?_
  refine run_any ops.size (tagged tab r) [] _ ?_ ⟨?_, ?_, ?_⟩ alones_tagged ?_ (by simp) rfl hrun (drew_rel _ hs) ?_
  · rw [← hlen, ← congrArg List.length (tagged_map (tab := tab) (l := r))]; simp
  · intro x hx
    have : x.2 ∈ (tagged tab r).map (·.2) := List.mem_map_of_mem hx
    rw [tagged_map] at this
    exact his _ this
  · have : ((tagged tab r).map (·.2)).Pairwise fun x y => hasEdge x.2.after.toList y.1 = false ∧ x.1 ≠ y.1 := by rw [tagged_map]; exact h1.and hnd
    rw [List.pairwise_map] at this
    exact this
  · intro x hx
    have : x.2 ∈ (tagged tab r).map (·.2) := List.mem_map_of_mem hx
    rw [tagged_map] at this
    exact h2 _ this
  · intro i
    constructor
    · intro h
      have hlt : i < ops.size := by
        rcases Nat.lt_or_ge i ops.size with h' | h'
        · exact h'
        · simp [Array.getD, Nat.not_lt.2 h'] at h
      have : (i, ops[i]) ∈ r := hp.symm.subset (mem_numbered.2 (by simp [hlt]))
      rw [← tagged_map (tab := tab) (l := r)] at this
      obtain ⟨x, hx, e⟩ := List.mem_map.1 this
      exact ⟨x, hx, by rw [e]⟩
    · rintro ⟨x, hx, e⟩
      have : x.2 ∈ (tagged tab r).map (·.2) := List.mem_map_of_mem hx
      rw [tagged_map] at this
      have := his _ this
      rw [e] at this
      have hlt : i < ops.size := (Array.getElem?_eq_some_iff.1 this).1
      simp [Array.getD, hlt]
  · intro f ρ' a' w' hk hr hst
    exact hf f ρ' a' w' hk hr ⟨hst.os, hst.tape, hst.output, hst.size, hst.frm, hst.own, hst.len, hst.rb, hst.rt, hst.rx, hst.rm⟩

end
end Go.Pt
