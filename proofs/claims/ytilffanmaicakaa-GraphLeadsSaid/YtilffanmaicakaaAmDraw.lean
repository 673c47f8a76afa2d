/- A region whose order is drawn: all its orders end alike. -/
import Derived.Test.YtilffanmaicakaaAmDrawA
namespace Go.Pt
open Go

section
variable {P : Program} {n₀ : Nat} {tab : Nat → Ty} {J : Jd}

/-- What the place of a footprint holds is the same. -/
def Looks (fp : Fp) (h h' : List Ent) : Prop :=
  match fp with
  | .no => True
  | .rd i => nth h' i = nth h i ∧ ∃ e, nth h i = some e
  | .wr i _ => nth h' i = nth h i ∧ ∃ e, nth h i = some e
  | .new i _ => lenN h' = lenN h ∧ lenN h = i
  | .mv i k _ => nth h' i = nth h i ∧ (∃ e, nth h i = some e) ∧ lenN h' = lenN h ∧ lenN h = k

/-- An operation that reads the heap gives one thing. -/
theorem read_of {op : Op} (hr : readOp op = true) {s : St} {K : AV → Prop} (h : aop (std P n₀) tab op s (fun v _ => K v) (fun _ _ => False)) :
    ∃ v, K v ∧ Looks (fpR op s) s.hp s.hp ∧ ∀ s' : St, (∀ x ∈ op.operands, s'.ev x = s.ev x) → Looks (fpR op s) s.hp s'.hp → ∀ K' E : AV → List Ent → Prop, K' v s'.hp → aop (std P n₀) tab op s' K' E := by
  cases op <;> simp only [readOp, Bool.false_eq_true] at hr
  all_goals simp only [Op.operands, List.mem_toArray, List.mem_cons, List.not_mem_nil, or_false, forall_eq, forall_eq_or_imp]
  case load t x =>
    simp only [aop] at h
    split at h
    · rename_i id off e
      split at h
      · rename_i cs hc
        split at h
        · rename_i v hv
          refine ⟨v, h, by simp [fpR, e, Looks, hc], fun s' he hl K' E' hk => ?_⟩
          have hl' : nth s'.hp id = nth s.hp id := by simp only [fpR, e, Looks] at hl; exact hl.1
          simp only [aop, he, e, hl', hc, hv]
          exact hk
        · exact h.elim
      · exact h.elim
    · rename_i cs off e
      split at h
      · rename_i v hv
        refine ⟨v, h, by simp [fpR, e, Looks], fun s' he hl K' E' hk => ?_⟩
        simp only [aop, he, e, hv]
        exact hk
      · exact h.elim
    · rename_i id z i off e
      split at h
      case h_2 => exact h.elim
      rename_i z' xs hc
      split at h
      case h_2 => exact h.elim
      rename_i hz
      obtain ⟨hin, h⟩ := h
      have hin' : 0 ≤ i ∧ i < (xs.length : Int) := hin
      obtain ⟨x0, hx0⟩ := at_some hin'
      have h := h x0 hx0
      simp only at h
      split at h
      case h_2 => exact h.elim
      rename_i v hv
      refine ⟨v, h, by simp [fpR, e, Looks, hc], fun s' he hl K' E' hk => ?_⟩
      have hl' : nth s'.hp id = nth s.hp id := by simp only [fpR, e, Looks] at hl; exact hl.1
      simp only [aop, he, e, hl', hc, hz]
      refine ⟨hin, fun x1 hx1 => ?_⟩
      replace hx1 : xs[i.toNat]? = some x1 := hx1
      rw [hx0] at hx1; simp only [Option.some.injEq] at hx1; subst hx1
      simp only [hv]; exact hk
    · exact h.elim
  case lookup t x k cok =>
    simp only [aop] at h
    have key : ∃ v, K v ∧ Looks (fpR (.lookup t x k cok) s) s.hp s.hp ∧ ∀ h' : List Ent, Looks (fpR (.lookup t x k cok) s) s.hp h' → ∀ K' : AV → Prop, K' v → lkA (std P n₀) tab (tab t) (s.ev x) (s.ev k) cok h' K' := by
      unfold lkA at h ⊢
      split at h
      case h_2 => exact h.elim
      split at h
      · exact h.elim
      split at h
      · exact h.elim
      split at h
      · exact h.elim
      rename_i z hz
      split at h
      · rename_i e
        refine ⟨_, h, by simp [fpR, e, Looks], fun h' hl K' hk => ?_⟩
        simp only [*]
      · rename_i id e
        split at h
        · rename_i es hes
          obtain ⟨h1, h2, h3⟩ := h
          cases hm : mfind es (s.ev k) with
          | none =>
            refine ⟨_, h3 hm, by simp [fpR, e, Looks, hes], fun h' hl K' hk => ?_⟩
            have hl' : nth h' id = nth s.hp id := by simp only [fpR, e, Looks] at hl; exact hl.1
            simp only [e, hl', hes]
            exact ⟨h1, fun v hv => by have hv : mfind es (s.ev k) = some v := hv; rw [hm] at hv; simp at hv, fun _ => hk⟩
          | some v =>
            refine ⟨_, h2 v hm, by simp [fpR, e, Looks, hes], fun h' hl K' hk => ?_⟩
            have hl' : nth h' id = nth s.hp id := by simp only [fpR, e, Looks] at hl; exact hl.1
            simp only [e, hl', hes]
            exact ⟨h1, fun v' hv => by have hv : mfind es (s.ev k) = some v' := hv; rw [hm] at hv; simp at hv; subst hv; exact hk, fun hn => by have hn : mfind es (s.ev k) = none := hn; rw [hm] at hn; simp at hn⟩
        · exact h.elim
      · exact h.elim
    obtain ⟨v, hk, hlk, hv⟩ := key
    refine ⟨v, hk, hlk, fun s' he hl K' E' hk' => ?_⟩
    simp only [aop, he.1, he.2]
    exact hv s'.hp hl (fun v => K' v s'.hp) hk'

/-- An operation that writes the heap, does so in one way. -/
theorem write_of {op : Op} {s : St} {F : Prop} {k : AV → Fp → Prop} (h : dopW (std P n₀) tab op s F k) :
    F ∨ ∃ v fp, k v fp ∧ (Looks fp s.hp s.hp) ∧ ∀ s' : St, (∀ x ∈ op.operands, s'.ev x = s.ev x) → Looks fp s.hp s'.hp → ∀ K' E : AV → List Ent → Prop, K' v (fp.go s'.hp) → aop (std P n₀) tab op s' K' E := by
  cases op <;> simp only [dopW] at h <;> try exact .inl h
  all_goals simp only [Op.operands, List.mem_toArray, List.mem_cons, List.not_mem_nil, or_false, forall_eq, forall_eq_or_imp]
  case store t x v =>
    split at h
    case h_3 => exact .inl h
    case h_2 =>
      rename_i id z i off e
      split at h
      case h_2 => exact .inl h
      rename_i z' xs hc
      split at h
      case h_2 => exact .inl h
      rename_i h1
      split at h
      case h_2 => exact .inl h
      rename_i h2
      split at h
      case h_2 => exact .inl h
      rename_i h3
      split at h
      case h_2 => exact .inl h
      rename_i ys h4
      split at h
      case h_2 => exact .inl h
      rename_i h5
      split at h
      case h_2 => exact .inl h
      obtain ⟨h6, h⟩ := h
      refine .inr ⟨_, _, h, ⟨rfl, _, hc⟩, fun s' he hl K' E' hk => ?_⟩
      obtain ⟨hl, _⟩ := hl
      simp only [aop, he.1, he.2, e, hl, hc, h1, h2, h3, h4, h5]
      exact ⟨h6, hk⟩
    rename_i id off e
    split at h
    case h_2 => exact .inl h
    rename_i cs hc
    split at h
    case h_2 => exact .inl h
    rename_i h1
    split at h
    case h_2 => exact .inl h
    rename_i h2
    split at h
    case h_2 => exact .inl h
    rename_i h3
    split at h
    case h_2 => exact .inl h
    rename_i cs' h4
    refine .inr ⟨_, _, h, ⟨rfl, _, hc⟩, fun s' he hl K' E' hk => ?_⟩
    obtain ⟨hl, _⟩ := hl
    simp only [aop, he.1, he.2, e, hl, hc, h1, h2, h3, h4]
    exact hk
  case alloc t =>
    split at h
    · rename_i h1
      refine .inr ⟨_, _, h, ⟨rfl, rfl⟩, fun s' he hl K' E' hk => ?_⟩
      have hl : lenN s'.hp = lenN s.hp := hl.1
      simp only [aop, h1, hl]; exact hk
    · exact .inl h
  case box t x =>
    split at h
    · rename_i h1
      refine .inr ⟨_, _, h, ⟨rfl, rfl⟩, fun s' he hl K' E' hk => ?_⟩
      have hl : lenN s'.hp = lenN s.hp := hl.1
      simp only [aop, he, h1, hl]; exact hk
    · exact .inl h
  case makeMap t r =>
    cases r with
    | none =>
      refine .inr ⟨_, _, h, ⟨rfl, rfl⟩, fun s' he hl K' E' hk => ?_⟩
      have hl : lenN s'.hp = lenN s.hp := hl.1
      simp only [aop, hl]; exact hk
    | some _ => exact .inl h
  case mapUpdate t m kk v =>
    split at h
    case h_2 => exact .inl h
    rename_i kt et hm
    split at h
    · exact .inl h
    rename_i h1
    split at h
    · exact .inl h
    rename_i h2
    split at h
    case h_2 => exact .inl h
    rename_i id e
    split at h
    case h_2 => exact .inl h
    rename_i es hes
    obtain ⟨h3, h⟩ := h
    refine .inr ⟨_, _, h, ⟨rfl, _, hes⟩, fun s' he hl K' E' hk => ?_⟩
    obtain ⟨hl, _⟩ := hl
    simp only [aop, muA, he.1, he.2.1, he.2.2, hm, h1, h2, e, hl, hes]
    exact ⟨h3, hk⟩
  case call c =>
    obtain ⟨callee, args, ts⟩ := c
    cases callee <;> try exact .inl h
    rename_i b
    cases b <;> try exact .inl h
    simp only at h
    have hev : ∀ (s' : St), (∀ x ∈ (Op.call ⟨.builtin .append, args, ts⟩).operands, s'.ev x = s.ev x) → evs s' args.toList = evs s args.toList := fun s' he => evs_eq' fun x hx => he x (by simp [Op.operands, Call.operands]; simpa using hx)
    split at h
    case h_2 => exact .inl h
    rename_i x y hxy
    split at h
    case h_2 => exact .inl h
    rename_i t u l hts
    split at h
    case h_2 => exact .inl h
    rename_i e hk
    split at h
    case h_2 =>
      rename_i _ hmd
      have red : ∀ (s' : St) (K' E' : AV → List Ent → Prop), evs s' args.toList = [x, y] → apV (std P n₀) (tab t).md (tab u) (tab e) x y s'.hp K' → aop (std P n₀) tab (.call ⟨.builtin .append, args, ts⟩) s' K' E' := by
        intro s' K' E' he ha
        simp only [aop, he, bi, hts, hk]
        exact ha
      have ops : ∀ (s' : St), (∀ x ∈ (Op.call ⟨.builtin .append, args, ts⟩).operands.toList, s'.ev x = s.ev x) → evs s' args.toList = [x, y] := fun s' he => (hev s' (by simpa using he)).trans hxy
      unfold apW at h
      split at h
      case h_2 => exact .inl h
      rename_i hb
      split at h
      case h_2 => exact .inl h
      rename_i hsz
      split at h
      case h_2 => exact .inl h
      rename_i e' hu
      split at h
      · rename_i ys tk hy
        have hsrc : ∀ h', srcV (std P n₀) (tab u) (tab e) y h' = some (ys, True) := by
          intro h'
          unfold srcV
          simp only [hu]
          cases y <;> simp only [hy] <;> simp [asSl] at hy
        split at h
        · rename_i id zz lo n N
          split at h
          case h_2 => exact .inl h
          rename_i hz
          split at h
          case h_2 => exact .inl h
          rename_i z' xs hid
          split at h
          case h_2 => exact .inl h
          rename_i hz'
          split at h
          case h_2 => exact .inl h
          rename_i hm1
          obtain ⟨p1, p2, p3, h⟩ := h
          refine .inr ⟨_, _, h, ⟨rfl, ⟨_, hid⟩, rfl, rfl⟩, fun s' he hl K' E' hk' => ?_⟩
          obtain ⟨hl1, _, hl2, _⟩ := hl
          refine red s' K' E' (ops s' (by simpa [Op.operands, Call.operands] using he)) ?_
          unfold apV
          simp only [hb, hsz, hsrc, hz, hl1, hid, hz', hl2, hm1]
          exact ⟨trivial, p1, p2, p3, hk'⟩
        · rename_i hnv'
          split at h
          case h_2 => exact .inl h
          rename_i xs hx
          obtain ⟨p1, p2, h⟩ := h
          refine .inr ⟨_, _, h, ⟨rfl, rfl⟩, fun s' he hl K' E' hk' => ?_⟩
          obtain ⟨hl1, _⟩ := hl
          refine red s' K' E' (ops s' (by simpa [Op.operands, Call.operands] using he)) ?_
          unfold apV
          simp only [hb, hsz, hsrc, hl1]
          refine ⟨trivial, ?_⟩
          cases x <;> first
            | exact (hnv' _ _ _ _ _ rfl).elim
            | (simp only [hx]; exact ⟨p1, p2, hk'⟩)
            | (simp [asSl] at hx; done)
      · rename_i hy
        split at h
        case h_2 => exact .inl h
        rename_i iy zy ly ny Ny
        split at h
        case h_2 => exact .inl h
        rename_i hzy
        split at h
        case h_2 => exact .inl h
        rename_i zy' xy hiy
        split at h
        case h_2 => exact .inl h
        rename_i hzy'
        obtain ⟨q1, q2, q3, h⟩ := h
        split at h
        case h_2 => exact .inl h
        rename_i id zz lo n N
        split at h
        case h_2 => exact .inl h
        rename_i hii
        have hii' := Nat.eq_of_beq_eq_true hii
        subst hii'
        split at h
        case h_2 => exact .inl h
        rename_i hz
        split at h
        · exact .inl h
        rename_i hmd1
        obtain ⟨p1, p2, p3, p4, p5, h⟩ := h
        refine .inr ⟨_, _, h, ⟨rfl, _, hiy⟩, fun s' he hl K' E' hk' => ?_⟩
        obtain ⟨hl1, _⟩ := hl
        refine red s' K' E' (ops s' (by simpa [Op.operands, Call.operands] using he)) ?_
        unfold apV srcV
        simp only [hb, hsz, hu, hzy, hl1, hiy, hzy', hz]
        refine ⟨⟨q1, q2, q3⟩, ?_⟩
        exact ⟨p1, p2, p3, p4, p5, hk'⟩
    rename_i hmd
    split at h
    case h_2 => exact .inl h
    rename_i hb
    split at h
    · exact .inl h
    rename_i xs tok hx
    split at h
    case h_2 => exact .inl h
    rename_i e' hu
    split at h
    · exact .inl h
    rename_i ys tk hy
    obtain ⟨hroom, h⟩ := h
    have red : ∀ (s' : St) (K' E' : AV → List Ent → Prop), evs s' args.toList = [x, y] → app (std P n₀) (tab e).size xs ys tok s'.hp K' → aop (std P n₀) tab (.call ⟨.builtin .append, args, ts⟩) s' K' E' := by
      intro s' K' E' he ha
      simp only [aop, he, bi, hts, hk, hmd, apA, hb, hx, hu, hy]
      exact ⟨hroom, ha⟩
    unfold appW at h
    cases tok with
    | no => exact .inl h
    | full =>
      refine .inr ⟨_, _, h, ⟨rfl, rfl⟩, fun s' he hl K' E' hk' => ?_⟩
      have hl : lenN s'.hp = lenN s.hp := hl.1
      have he' : ∀ x' ∈ (Op.call ⟨.builtin .append, args, ts⟩).operands, s'.ev x' = s.ev x' := by simpa [Op.operands, Call.operands] using he
      refine red s' K' E' ((hev s' he').trans hxy) ?_
      simp only [app, hl]; exact hk'
    | tip id pos =>
      simp only at h
      split at h
      case h_2 => exact .inl h
      rename_i p hp
      obtain ⟨hpp, h⟩ := h
      refine .inr ⟨_, _, h, ⟨rfl, _, hp⟩, fun s' he hl K' E' hk' => ?_⟩
      obtain ⟨hl, _⟩ := hl
      have he' : ∀ x' ∈ (Op.call ⟨.builtin .append, args, ts⟩).operands, s'.ev x' = s.ev x' := by simpa [Op.operands, Call.operands] using he
      refine red s' K' E' ((hev s' he').trans hxy) ?_
      simp only [app, hl, hp]; exact ⟨hpp, hk'⟩

/-- What an operation does. -/
def Does (P : Program) (ops : Array Oper) (i : Nat) (q : Oper) (s : St) (v : AV) (fp : Fp) : Prop :=
  ∀ s' : St, Agree ops.toList q s s' → Looks fp s.hp s'.hp → ∀ (rd : Option Nat) (ρ : Ro) (a : Act) (w : World) (Q : Exit → Act → World → Prop) (next : Act → World → Prop), RelS ρ s' a w →
    (∀ ρ' a' w', RelS ρ' (s'.put q.dst v (fp.go s'.hp)) a' w' → Stp ρ s'.hp w ρ' (fp.go s'.hp) w' → next a' w') → wpOpIn (fen rd) 0 P ops Q i next a w

theorem Looks.trans {fp : Fp} {h h' h'' : List Ent} (a : Looks fp h h') (b : Looks fp h' h'') : Looks fp h h'' := by
  cases fp with
  | no => trivial
  | rd i => exact ⟨b.1.trans a.1, a.2⟩
  | wr i e => exact ⟨b.1.trans a.1, a.2⟩
  | new i e => exact ⟨b.1.trans a.1, a.2⟩
  | mv i k e => exact ⟨b.1.trans a.1, a.2.1, b.2.2.1.trans a.2.2.1, a.2.2.2⟩

theorem Does.frame {ops : Array Oper} {i : Nat} {q : Oper} {s t : St} {v : AV} {fp : Fp} (h : Does P ops i q s v fp) (he : Agree ops.toList q s t) (hp : Looks fp s.hp t.hp) : Does P ops i q t v fp :=
  fun s' ha hp' => h s' ⟨ha.n.trans he.n, fun x hx => (ha.ev x hx).trans (he.ev x hx), fun j b d h1 h2 => (ha.gd j b d h1 h2).trans (he.gd j b d h1 h2)⟩ (hp.trans hp')

/-- Is the operation done, in every state that looks so? -/
def Wanted (ops : Array Oper) (q : Oper) (s : St) (g : Bool) : Prop := ∀ s' : St, Agree ops.toList q s s' → ∀ (ρ : Ro) (a : Act) (w : World), RelS ρ s' a w → Region.wanted q (yielded ops a.tmps) = g

theorem Wanted.none {ops : Array Oper} {q : Oper} {s : St} (hg : q.guard = .none) : Wanted ops q s true := fun s' _ ρ a w _ => by simp [Region.wanted, hg]

theorem Wanted.of {ops : Array Oper} {q : Oper} {s : St} {j d : Nat} {b g : Bool} (hg : q.guard = some (j, b)) (hd : (nth ops.toList j).bind (·.dst) = some d) (h : gOf (std P n₀) b (look s.env d) = some g) : Wanted ops q s g :=
  fun s' ha ρ a w hs => wanted_of (P := P) (n₀ := n₀) hs hg hd (by rw [ha.gd j b d hg hd]; exact h)

/-- Done. -/
theorem Does.on (ht : TabOk P tab) {ops : Array Oper} {i : Nat} {q : Oper} {s : St} {v : AV} {fp : Fp} {o : List (Nat × AV)} (hq : ops[i]? = some q) (hf : fits q.dst s.n = true) (hw : Wanted ops q s true)
    (ho : ∀ s' : St, (∀ x ∈ reads q.op, s'.ev x = s.ev x) → ∀ K' : St → Prop, K' (s'.over o) → strip true (reads q.op) s' K')
    (hv : ∀ s' : St, Agree ops.toList q s s' → Looks fp s.hp s'.hp → ∀ K E : AV → List Ent → Prop, K v (fp.go s'.hp) → aop (std P n₀) tab q.op (s'.over o) K E) : Does P ops i q s v fp := by
  intro s' ha hp rd ρ a w Q next hs hn
  have hf' : fits q.dst s'.n = true := by rw [ha.n]; exact hf
  unfold wpOpIn
  simp only [hq]
  rw [if_pos (hw s' ha ρ a w hs)]
  obtain ⟨s1, h1, h2, h3, h4⟩ := strip_sound (w := w) (ρ := ρ) (a := a) (ho s' (fun x hx => ha.ev x (reads_sub hx)) (fun x => x = s'.over o) rfl)
  subst h1
  refine aop_sound (K := fun v' h' => v' = v ∧ h' = fp.go s'.hp) (E := fun _ _ => False) ht (h4 rfl hs) (hv s' ha hp _ _ ⟨rfl, rfl⟩) ⟨fun v' u ρ' σ' w' hk hv hst hrl => ?_⟩ ⟨fun x v ρ' σ' w' hx _ _ _ => hx.elim⟩
  obtain ⟨rfl, rfl⟩ := hk
  exact hn ρ' _ w' (put_rel hs hf' hv hst hrl) hst

/-- Passed over. -/
theorem Does.off {ops : Array Oper} {i : Nat} {q : Oper} {s : St} {v : AV} (hq : ops[i]? = some q) (hf : fits q.dst s.n = true) (hw : Wanted ops q s false) (hv : ∀ {w : World} {S : Nat → Nat → Prop} {ρ : Ro} {n : Nat}, Val w S ρ n v undef) : Does P ops i q s v .no := by
  intro s' ha hp rd ρ a w Q next hs hn
  have hf' : fits q.dst s'.n = true := by rw [ha.n]; exact hf
  unfold wpOpIn
  simp only [hq]
  rw [if_neg (by rw [hw s' ha ρ a w hs]; simp)]
  exact ⟨fun _ _ => trivial, hn ρ _ w (put_rel hs hf' hv (Stp.refl _ _ _) hs.rel) (Stp.refl _ _ _)⟩

/-- Under a guard that is a Bool of ours. -/
theorem Does.guarded (ht : TabOk P tab) {ops : Array Oper} {i : Nat} {g : Bool} {q : Oper} {s : St} {v : AV} {fp : Fp} {o : List (Nat × AV)} (hq : ops[i]? = some q) (hf : fits q.dst s.n = true) (hw : Wanted ops q s g) (hfp : ∀ h, fp.go h = h)
    (ho : ∀ s' : St, (∀ x ∈ reads q.op, s'.ev x = s.ev x) → ∀ K' : St → Prop, K' (s'.over o) → strip g (reads q.op) s' K')
    (hv : ∀ s' : St, Agree ops.toList q s s' → Looks fp s.hp s'.hp → g = true → ∀ K E : AV → List Ent → Prop, K v s'.hp → aop (std P n₀) tab q.op (s'.over o) K E) : Does P ops i q s (.cond g v) fp := by
  intro s' ha hp rd ρ a w Q next hs hn
  have hf' : fits q.dst s'.n = true := by rw [ha.n]; exact hf
  rw [hfp] at hn
  unfold wpOpIn
  simp only [hq]
  cases g with
  | true =>
    rw [if_pos (hw s' ha ρ a w hs)]
    obtain ⟨s1, h1, h2, h3, h4⟩ := strip_sound (w := w) (ρ := ρ) (a := a) (ho s' (fun x hx => ha.ev x (reads_sub hx)) (fun x => x = s'.over o) rfl)
    subst h1
    refine aop_sound (K := fun v' h' => v' = v ∧ h' = s'.hp) (E := fun _ _ => False) ht (h4 rfl hs) (hv s' ha hp rfl _ _ ⟨rfl, rfl⟩) ⟨fun v' u ρ' σ' w' hk hv hst hrl => ?_⟩ ⟨fun x v ρ' σ' w' hx _ _ _ => hx.elim⟩
    obtain ⟨rfl, rfl⟩ := hk
    exact hn ρ' _ w' (put_rel hs hf' (cond_val hv rfl) hst hrl) hst
  | false =>
    rw [if_neg (by rw [hw s' ha ρ a w hs]; simp)]
    exact ⟨fun _ _ => trivial, hn ρ _ w (put_rel hs hf' undef_val (Stp.refl _ _ _) hs.rel) (Stp.refl _ _ _)⟩

/-- What a call may do. -/
def DoesC (P : Program) (ops : Array Oper) (i : Nat) (q : Oper) (s : St) (Φ : AV → List Ent → Prop) : Prop :=
  ∀ s' : St, Agree ops.toList q s s' → s'.hp = s.hp → ∀ (rd : Option Nat) (ρ : Ro) (a : Act) (w : World) (Q : Exit → Act → World → Prop) (next : Act → World → Prop), RelS ρ s' a w →
    (∀ v h' ρ' a' w', Φ v h' → RelS ρ' (s'.put q.dst v h') a' w' → Stp ρ s'.hp w ρ' h' w' → next a' w') → wpOpIn (fen rd) 0 P ops Q i next a w

theorem DoesC.on (ht : TabOk P tab) {ops : Array Oper} {i : Nat} {q : Oper} {s : St} {Φ : AV → List Ent → Prop} {o : List (Nat × AV)} (hq : ops[i]? = some q) (hf : fits q.dst s.n = true) (hw : Wanted ops q s true)
    (ho : ∀ s' : St, (∀ x ∈ reads q.op, s'.ev x = s.ev x) → ∀ K' : St → Prop, K' (s'.over o) → strip true (reads q.op) s' K')
    (hv : ∀ s' : St, Agree ops.toList q s s' → s'.hp = s.hp → aop (std P n₀) tab q.op (s'.over o) Φ (fun _ _ => False)) : DoesC P ops i q s Φ := by
  intro s' ha hp rd ρ a w Q next hs hn
  have hf' : fits q.dst s'.n = true := by rw [ha.n]; exact hf
  unfold wpOpIn
  simp only [hq]
  rw [if_pos (hw s' ha ρ a w hs)]
  obtain ⟨s1, h1, h2, h3, h4⟩ := strip_sound (w := w) (ρ := ρ) (a := a) (ho s' (fun x hx => ha.ev x (reads_sub hx)) (fun x => x = s'.over o) rfl)
  subst h1
  exact aop_sound (E := fun _ _ => False) ht (h4 rfl hs) (hv s' ha hp) ⟨fun v' u ρ' σ' w' hk hv hst hrl => hn v' σ' ρ' _ w' hk (put_rel hs hf' hv hst hrl) hst⟩ ⟨fun x v ρ' σ' w' hx _ _ _ => hx.elim⟩

/-- What is asked of the i-th operation, whatever the state. -/
structure Fixed (all : List Oper) (n i : Nat) (q : Oper) : Prop where
  is : all[i]? = some q
  guard : ∀ j b d, q.guard = some (j, b) → (nth all j).bind (·.dst) = some d → Go.Pt.waits all i q.after.toList [.tmp d] = true
  fits : fits q.dst n = true
  lt : edgesLt q.after.toList all.length = true
  waits : waits all i q.after.toList q.op.operands.toList = true
  sole : sole all q.dst i = true

/-- An operation that is left: is it a call that may do this or that; its number. -/
abbrev Left := Bool × Nat × Oper

/-- The operations that are left, in some order. -/
def Run (P : Program) (ops : Array Oper) (n : Nat) (K : St → Prop) : List (Nat × Fp) → List Left → St → Prop
  | _, [], s => ∃ f, K f ∧ Like s f
  | acc, (false, i, q) :: r, s => Fixed ops.toList n i q ∧ ∃ v fp, Does P ops i q s v fp ∧ Looks fp s.hp s.hp ∧ okAcc acc q.after.toList fp = true ∧ Run P ops n K ((i, fp) :: acc) r (s.put q.dst v (fp.go s.hp))
  | acc, (true, i, q) :: r, s => Fixed ops.toList n i q ∧ quietAcc acc q.after.toList = true ∧ DoesC P ops i q s fun v h' => framesP acc q.after.toList s.hp h' ∧ Run P ops n K acc r (s.put q.dst v h')

theorem okAcc_iff {es : List Edge} {fp : Fp} : ∀ {acc : List (Nat × Fp)}, okAcc acc es fp = true ↔ ∀ x ∈ acc, clash x.2 fp = true → hasEdge es x.1 = true
  | [] => by simp [okAcc]
  | (j, g) :: r => by
    simp only [okAcc, List.mem_cons, forall_eq_or_imp]
    split
    · rename_i e
      split
      · rename_i e'; rw [okAcc_iff]; simp [e, e']
      · rename_i e'; simp [e, e']
    · rename_i e; rw [okAcc_iff]; simp [e]

theorem hasEdge_iff {es : List Edge} {j : Nat} : hasEdge es j = true ↔ ∃ e ∈ es, bindAny e = true ∧ e.on = j := by
  induction es with
  | nil => simp [hasEdge]
  | cons e r ih =>
    simp only [hasEdge, List.mem_cons, exists_eq_or_imp]
    split
    · rename_i h
      split
      · rename_i h'; simp [h, Nat.eq_of_beq_eq_true h']
      · rename_i h'
        rw [ih]
        have : e.on ≠ j := fun he => by rw [he] at h'; simp at h'
        simp [this]
    · rename_i h; rw [ih]; simp [h]

theorem edgesLt_iff {es : List Edge} {i : Nat} : edgesLt es i = true ↔ ∀ e ∈ es, bindAny e = true → e.on < i := by
  induction es with
  | nil => simp [edgesLt]
  | cons e r ih =>
    simp only [edgesLt, List.mem_cons, forall_eq_or_imp]
    split
    · rename_i h
      split
      · rename_i h'; rw [ih]; simp [h, Nat.blt_eq] at *; simp [h']
      · rename_i h'
        have : ¬ e.on < i := fun hl => by
          have : Nat.blt e.on i = true := Nat.blt_eq ▸ hl
          rw [this] at h'; simp at h'
        simp [h, this]
    · rename_i h; rw [ih]; simp [h]

theorem waits_iff {all : List Oper} {i : Nat} {es : List Edge} {l : List Operand} : waits all i es l = true ↔ ∀ t, Operand.tmp t ∈ l → ∀ j, whoW all t 0 = some j → hasEdge es j = true ∨ hasEdge (aft all j) i = true := by
  induction l with
  | nil => simp [waits]
  | cons x r ih =>
    cases x with
    | tmp t =>
      simp only [waits]
      split
      · rename_i h
        rw [ih]
        constructor
        · intro hh t' ht' j hj
          rcases List.mem_cons.1 ht' with e | e
          · simp at e; subst e; rw [h] at hj; simp at hj
          · exact hh t' e j hj
        · intro hh t' ht' j hj; exact hh t' (List.mem_cons_of_mem _ ht') j hj
      · rename_i j h
        split
        · rename_i h'
          rw [ih]
          constructor
          · intro hh t' ht' j' hj
            rcases List.mem_cons.1 ht' with e | e
            · simp at e; subst e; rw [h] at hj; simp at hj; subst hj; exact .inl h'
            · exact hh t' e j' hj
          · intro hh t' ht' j hj; exact hh t' (List.mem_cons_of_mem _ ht') j hj
        · rename_i h'
          split
          · rename_i h''
            rw [ih]
            constructor
            · intro hh t' ht' j' hj
              rcases List.mem_cons.1 ht' with e | e
              · simp at e; subst e; rw [h] at hj; simp at hj; subst hj; exact .inr h''
              · exact hh t' e j' hj
            · intro hh t' ht' j hj; exact hh t' (List.mem_cons_of_mem _ ht') j hj
          · rename_i h''
            simp only [Bool.false_eq_true, false_iff]
            intro hh
            rcases hh t (by simp) j h with e | e
            · rw [e] at h'; simp at h'
            · rw [e] at h''; simp at h''
    | _ => simp [waits, ih]

theorem sole_who {all : List Oper} {d i : Nat} (h : sole all (some d) i = true) : whoW all d 0 = some i := by
  simp only [sole] at h
  split at h
  · rename_i j e; rw [e, Nat.eq_of_beq_eq_true h]
  · simp at h

theorem bind_any {md : Region.Mode} (hm : md = .any) (e : Edge) : Region.binds md e = bindAny e := by
  subst hm
  unfold Region.binds bindAny
  split <;> simp_all


theorem waitsAny_iff {es : List Edge} : ∀ {l : List Nat}, waitsAny es l = true ↔ ∃ j ∈ l, hasEdge es j = true
  | [] => by simp [waitsAny]
  | j :: l => by
    simp only [waitsAny, List.mem_cons, exists_eq_or_imp]
    split
    · rename_i h; simp [h]
    · rename_i h; rw [waitsAny_iff]; simp [h]

/-- Each operation behind one that is alone waits for it, or for another one behind it. -/
theorem alone_waits : ∀ {r : List (Nat × Oper)} {l : List Nat}, alone r l = true → ∀ x ∈ r, ∃ j, hasEdge x.2.after.toList j = true ∧ (j ∈ l ∨ ∃ y ∈ r, y.1 = j)
  | [], _, _, x, hx => by simp at hx
  | (i, q) :: r, l, h, x, hx => by
    simp only [alone] at h
    split at h
    case h_2 => simp at h
    rename_i hw
    rcases List.mem_cons.1 hx with rfl | hx
    · obtain ⟨j, hj, he⟩ := waitsAny_iff.1 hw
      exact ⟨j, he, .inl hj⟩
    · obtain ⟨j, he, hj⟩ := alone_waits h x hx
      refine ⟨j, he, ?_⟩
      rcases hj with hj | ⟨y, hy, e⟩
      · rcases List.mem_cons.1 hj with e | hj
        · exact .inr ⟨(i, q), List.mem_cons_self, e.symm⟩
        · exact .inl hj
      · exact .inr ⟨y, List.mem_cons_of_mem _ hy, e⟩

theorem quiet_iff {es : List Edge} : ∀ {acc : List (Nat × Fp)}, quietAcc acc es = true ↔ ∀ x ∈ acc, hasEdge es x.1 = false → (x.2 = .no ∨ ∃ id, x.2 = .rd id)
  | [] => by simp [quietAcc]
  | (j, g) :: r => by
    simp only [quietAcc, List.mem_cons, forall_eq_or_imp]
    split
    · rename_i e; rw [quiet_iff]; simp [e]
    · rename_i e
      cases g with
      | no => simp only [quiet_iff, e, forall_const]; exact ⟨fun h => ⟨.inl trivial, h⟩, fun h => h.2⟩
      | rd id => simp only [quiet_iff, e, forall_const]; exact ⟨fun h => ⟨.inr ⟨id, rfl⟩, h⟩, fun h => h.2⟩
      | wr i e' => simp [e]
      | new i e' => simp [e]
      | mv i k e' => simp [e]

theorem framesP_iff {es : List Edge} {h h' : List Ent} : ∀ {acc : List (Nat × Fp)}, framesP acc es h h' ↔ ∀ x ∈ acc, hasEdge es x.1 = false → (x.2 = .no ∨ ∃ id, x.2 = .rd id ∧ nth h' id = nth h id)
  | [] => by simp [framesP]
  | (j, g) :: r => by
    simp only [framesP, List.mem_cons, forall_eq_or_imp]
    split
    · rename_i e; rw [framesP_iff]; simp [e]
    · rename_i e
      cases g with
      | no => simp only [framesP_iff, e, forall_const]; exact ⟨fun h => ⟨.inl trivial, h⟩, fun h => h.2⟩
      | rd id =>
        simp only [framesP_iff, e, forall_const]
        constructor
        · rintro ⟨h1, h2⟩; exact ⟨.inr ⟨id, rfl, h1⟩, h2⟩
        · rintro ⟨h1, h2⟩
          rcases h1 with h1 | ⟨id', h1, h3⟩
          · cases h1
          · cases h1; exact ⟨h3, h2⟩
      | wr i e' =>
        simp only [e, forall_const, false_iff]
        rintro ⟨h1, _⟩
        rcases h1 with h1 | ⟨_, h1, _⟩ <;> cases h1
      | new i e' =>
        simp only [e, forall_const, false_iff]
        rintro ⟨h1, _⟩
        rcases h1 with h1 | ⟨_, h1, _⟩ <;> cases h1
      | mv i k e' =>
        simp only [e, forall_const, false_iff]
        rintro ⟨h1, _⟩
        rcases h1 with h1 | ⟨_, h1, _⟩ <;> cases h1

theorem clash_sym {f g : Fp} : clash f g = clash g f := by
  have sym : ∀ i j, Nat.beq i j = Nat.beq j i := fun i j => by
    cases h : Nat.beq j i with
    | true => rw [Nat.eq_of_beq_eq_true h]; simp
    | false =>
      cases h' : Nat.beq i j with
      | false => rfl
      | true => rw [Nat.eq_of_beq_eq_true h'] at h; simp at h
  cases f <;> cases g <;> first | rfl | exact sym _ _

theorem Like.agree {all : List Oper} {q : Oper} {s t : St} (h : Like s t) : Agree all q t s := ⟨h.n, fun x _ => h.evs x, fun _ _ d _ _ => h.ev d⟩

theorem Run.like {ops : Array Oper} {n : Nat} {K : St → Prop} : ∀ {r : List Left} {acc acc' : List (Nat × Fp)} {s t : St}, Like s t → (∀ x ∈ acc', x ∈ acc) → Run P ops n K acc r s → Run P ops n K acc' r t
  | [], _, _, _, _, hl, _, ⟨f, hf, h⟩ => ⟨f, hf, fun i => (hl.ev i).symm.trans (h.ev i), hl.hp.symm.trans h.hp, hl.n.symm.trans h.n⟩
  | (false, i, q) :: r, acc, acc', s, t, hl, ha, ⟨h1, v, fp, h2, h5, h3, h4⟩ => by
    have hl' : Like t s := ⟨fun i => (hl.ev i).symm, hl.hp.symm, hl.n.symm⟩
    refine ⟨h1, v, fp, h2.frame hl'.agree (by rw [← hl.hp]; exact h5), by rw [← hl.hp]; exact h5, okAcc_iff.2 fun x hx => okAcc_iff.1 h3 x (ha x hx), ?_⟩
    refine Run.like (by rw [← hl.hp]; exact hl.put _ _ _) (fun x hx => ?_) h4
    rcases List.mem_cons.1 hx with e | e
    · exact e ▸ List.mem_cons_self
    · exact List.mem_cons_of_mem _ (ha x e)
  | (true, i, q) :: r, acc, acc', s, t, hl, ha, ⟨h1, h2, h3⟩ => by
    have hl' : Like t s := ⟨fun i => (hl.ev i).symm, hl.hp.symm, hl.n.symm⟩
    refine ⟨h1, quiet_iff.2 fun x hx => quiet_iff.1 h2 x (ha x hx), fun s' ha' hp rd ρ a w Q next hs hn => ?_⟩
    refine h3 s' ⟨ha'.n.trans hl'.n, fun x hx => (ha'.ev x hx).trans (hl'.evs x), fun j b d e1 e2 => (ha'.gd j b d e1 e2).trans (hl'.ev d)⟩ (hp.trans hl'.hp) rd ρ a w Q next hs fun v h' ρ' a' w' hΦ => hn v h' ρ' a' w' ⟨?_, ?_⟩
    · rw [framesP_iff]
      intro x hx he
      have := framesP_iff.1 hΦ.1 x (ha x hx) he
      rw [← hl.hp]; exact this
    · exact Run.like (hl.put _ _ _) ha hΦ.2

theorem nth_set_ne {h : List Ent} {i j : Nat} {e : Ent} (hne : i ≠ j) : nth (setN h i e) j = nth h j := by
  rw [nth_eq, nth_eq, setN_eq, List.getElem?_set_ne hne]

theorem nth_lt {h : List Ent} {i : Nat} {e : Ent} (hh : nth h i = some e) : i < h.length := by rw [nth_eq] at hh; exact lt_of_get hh

theorem nth_snoc {h : List Ent} {e : Ent} {j : Nat} (hj : j < h.length) : nth (snoc h e) j = nth h j := by
  simp only [nth_eq, snoc_eq]
  rw [List.getElem?_append_left hj]

theorem beq_ne {i j : Nat} (h : Nat.beq i j = false) : i ≠ j := fun e => by subst e; simp at h

theorem Looks.symm {fp : Fp} {h h' : List Ent} (a : Looks fp h h') : Looks fp h' h := by
  cases fp with
  | no => trivial
  | rd i => obtain ⟨e, x, hx⟩ := a; exact ⟨e.symm, x, e.trans hx⟩
  | wr i e => obtain ⟨e, x, hx⟩ := a; exact ⟨e.symm, x, e.trans hx⟩
  | new i e => exact ⟨a.1.symm, a.1.trans a.2⟩
  | mv i k e => obtain ⟨e1, ⟨x, hx⟩, e2, e3⟩ := a; exact ⟨e1.symm, ⟨x, e1.trans hx⟩, e2.symm, e2.trans e3⟩

theorem mv_ne {i j k : Nat} (h : (Nat.beq i j || Nat.beq k j) = false) : i ≠ j ∧ k ≠ j := by
  rw [Bool.or_eq_false_iff] at h
  exact ⟨beq_ne h.1, beq_ne h.2⟩

theorem lenN_set {h : List Ent} {i : Nat} {e : Ent} : lenN (setN h i e) = lenN h := by simp [lenN_eq, setN_eq]

theorem nth_mv {h : List Ent} {i j : Nat} {d e : Ent} (hj : j < h.length) (hne : i ≠ j) : nth (snoc (setN h i d) e) j = nth h j := by
  rw [nth_snoc (by rw [setN_eq]; simpa using hj), nth_set_ne hne]

theorem mv_lt {h : List Ent} {i j k : Nat} {d e x : Ent} (hk : lenN h = k) (hne : k ≠ j) (hx : nth (snoc (setN h i d) e) j = some x) : j < h.length := by
  have := nth_lt hx
  rw [snoc_eq, setN_eq] at this
  simp at this
  rw [lenN_eq] at hk
  omega

/-- What one operation does, another one that does not clash does not see. -/
theorem look_back {f g : Fp} {h : List Ent} (hc : clash f g = false) (hf : Looks f h h) (hg : Looks g (f.go h) (f.go h)) : Looks g (f.go h) h := by
  cases f with
  | no => exact hg
  | rd _ => exact hg
  | wr i e =>
    cases g with
    | no => trivial
    | rd j => exact ⟨(nth_set_ne (beq_ne hc)).symm, hg.2⟩
    | wr j e' => exact ⟨(nth_set_ne (beq_ne hc)).symm, hg.2⟩
    | new j e' => exact ⟨lenN_set.symm, hg.2⟩
    | mv j k e' => exact ⟨(nth_set_ne (mv_ne hc).1.symm).symm, hg.2.1, lenN_set.symm, hg.2.2.2⟩
  | new i e =>
    have hi : h.length = i := by have := hf.2; rwa [lenN_eq] at this
    have lt : ∀ {j : Nat} {x : Ent}, Nat.beq i j = false → nth (snoc h e) j = some x → j < h.length := by
      intro j x hb hx
      have := nth_lt hx
      have hne := beq_ne hb
      rw [snoc_eq] at this
      simp at this
      omega
    cases g with
    | no => trivial
    | rd j => obtain ⟨_, x, hx⟩ := hg; exact ⟨(nth_snoc (lt hc hx)).symm, x, hx⟩
    | wr j e' => obtain ⟨_, x, hx⟩ := hg; exact ⟨(nth_snoc (lt hc hx)).symm, x, hx⟩
    | new j e' => simp [clash] at hc
    | mv j k e' => simp [clash] at hc
  | mv i k e =>
    obtain ⟨_, ⟨x0, hx0⟩, _, hk⟩ := hf
    cases g with
    | no => trivial
    | rd j => obtain ⟨_, x, hx⟩ := hg; exact ⟨(nth_mv (mv_lt hk (mv_ne hc).2 hx) (mv_ne hc).1).symm, x, hx⟩
    | wr j e' => obtain ⟨_, x, hx⟩ := hg; exact ⟨(nth_mv (mv_lt hk (mv_ne hc).2 hx) (mv_ne hc).1).symm, x, hx⟩
    | new j e' => simp [clash] at hc
    | mv j k' e' => simp [clash] at hc

theorem look_on {f g : Fp} {h : List Ent} (hc : clash g f = false) (hf : Looks f h h) (hg : Looks g h h) : Looks g h (f.go h) := by
  cases f with
  | no => exact hg
  | rd _ => exact hg
  | wr i e =>
    cases g with
    | no => trivial
    | rd j => exact ⟨nth_set_ne (beq_ne hc).symm, hg.2⟩
    | wr j e' => exact ⟨nth_set_ne (beq_ne hc).symm, hg.2⟩
    | new j e' => exact ⟨lenN_set, hg.2⟩
    | mv j k e' => exact ⟨nth_set_ne (mv_ne hc).1.symm, hg.2.1, lenN_set, hg.2.2.2⟩
  | new i e =>
    cases g with
    | no => trivial
    | rd j => obtain ⟨_, x, hx⟩ := hg; exact ⟨nth_snoc (nth_lt hx), x, hx⟩
    | wr j e' => obtain ⟨_, x, hx⟩ := hg; exact ⟨nth_snoc (nth_lt hx), x, hx⟩
    | new j e' => simp [clash] at hc
    | mv j k e' => simp [clash] at hc
  | mv i k e =>
    cases g with
    | no => trivial
    | rd j => obtain ⟨_, x, hx⟩ := hg; exact ⟨nth_mv (nth_lt hx) (mv_ne hc).1, x, hx⟩
    | wr j e' => obtain ⟨_, x, hx⟩ := hg; exact ⟨nth_mv (nth_lt hx) (mv_ne hc).1, x, hx⟩
    | new j e' => simp [clash] at hc
    | mv j k' e' => simp [clash] at hc

theorem wr_mv {h : List Ent} {i j : Nat} {c d : Ent} (hi : i < h.length) (hne : j ≠ i) : setN (snoc (setN h j .dead) d) i c = snoc (setN (setN h i c) j .dead) d := by
  simp only [setN_eq, snoc_eq]
  rw [List.set_append_left _ _ (by simpa using hi), List.set_comm _ _ hne]

theorem go_comm {f g : Fp} {h : List Ent} (hc : clash f g = false) (hf : Looks f h h) (hg : Looks g h h) : g.go (f.go h) = f.go (g.go h) := by
  cases f with
  | no => rfl
  | rd _ => rfl
  | wr i c =>
    obtain ⟨_, x, hx⟩ := hf
    cases g with
    | no => rfl
    | rd _ => rfl
    | wr j d =>
      simp only [Fp.go, setN_eq]
      exact List.set_comm _ _ (beq_ne hc)
    | new j d =>
      simp only [Fp.go, setN_eq, snoc_eq]
      rw [List.set_append_left _ _ (nth_lt hx)]
    | mv j k d => exact (wr_mv (nth_lt hx) (mv_ne hc).1).symm
  | new i c =>
    cases g with
    | no => rfl
    | rd _ => rfl
    | wr j d =>
      obtain ⟨_, x, hx⟩ := hg
      simp only [Fp.go, setN_eq, snoc_eq]
      rw [List.set_append_left _ _ (nth_lt hx)]
    | new j d => simp [clash] at hc
    | mv j k d => simp [clash] at hc
  | mv i k c =>
    cases g with
    | no => rfl
    | rd _ => rfl
    | wr j d =>
      obtain ⟨_, x, hx⟩ := hg
      exact wr_mv (nth_lt hx) (mv_ne hc).1
    | new j d => simp [clash] at hc
    | mv j k d => simp [clash] at hc

/-- Nobody's slot. -/
theorem not_mine {all : List Oper} {n i j : Nat} {qi qj : Oper} {s : St} {v : AV} {h : List Ent} (fi : Fixed all n i qi) (fj : Fixed all n j qj) (hne : hasEdge qi.after.toList j = false) (hnj : hasEdge qj.after.toList i = false) : Agree all qi s (s.put qj.dst v h) := by
  have ha : aft all j = qj.after.toList := by simp only [aft, nth_eq, fj.is]
  refine ⟨put_n, fun x hx => ?_, fun k b d hg hd => ?_⟩
  · cases x with
    | tmp t =>
      simp only [St.ev, look_put]
      rw [if_neg]
      intro hd
      rcases waits_iff.1 fi.waits t (by simpa using hx) j (sole_who (hd ▸ fj.sole)) with e | e
      · rw [e] at hne; simp at hne
      · rw [ha, hnj] at e; simp at e
    | _ => rfl
  · rw [look_put, if_neg]
    intro hd'
    rcases waits_iff.1 (fi.guard k b d hg hd) d (by simp) j (sole_who (hd' ▸ fj.sole)) with e | e
    · rw [e] at hne; simp at hne
    · rw [ha, hnj] at e; simp at e

theorem Agree.symm {all : List Oper} {q : Oper} {s t : St} (h : Agree all q s t) : Agree all q t s := ⟨h.n.symm, fun x hx => (h.ev x hx).symm, fun j b d e1 e2 => (h.gd j b d e1 e2).symm⟩

theorem put_put {all : List Oper} {n i j : Nat} {qi qj : Oper} {s : St} {v u : AV} {h h' k k' : List Ent} (fi : Fixed all n i qi) (fj : Fixed all n j qj) (hij : i ≠ j) (hh : h' = k') : Like ((s.put qj.dst u h).put qi.dst v h') ((s.put qi.dst v k).put qj.dst u k') := by
  refine ⟨fun m => ?_, ?_, ?_⟩
  · simp only [look_put]
    by_cases h1 : qi.dst = some m
    · by_cases h2 : qj.dst = some m
      · have e1 := sole_who (h1 ▸ fi.sole); have e2 := sole_who (h2 ▸ fj.sole)
        rw [e1] at e2; simp at e2; omega
      · simp [h1, h2]
    · simp [h1]
  · simp only [put_hp]; exact hh
  · simp only [put_n]

/-- Two neighbours change places. -/
theorem Run.swap {ops : Array Oper} {n : Nat} {K : St → Prop} {acc : List (Nat × Fp)} {b : Bool} {i j : Nat} {qi qj : Oper} {r : List Left} {s : St} (hij : i ≠ j)
    (hne : hasEdge qi.after.toList j = false) (hnj : hasEdge qj.after.toList i = false) (h : Run P ops n K acc ((false, j, qj) :: (b, i, qi) :: r) s) : Run P ops n K acc ((b, i, qi) :: (false, j, qj) :: r) s := by
  cases b with
  | false =>
    obtain ⟨fj, vj, gj, dj, lj, oj, fi, vi, gi, di, li, oi, hr⟩ := h
    have hc : clash gj gi = false := by
      cases e : clash gj gi with
      | false => rfl
      | true => rw [okAcc_iff.1 oi (j, gj) List.mem_cons_self e] at hne; simp at hne
    have hc' : clash gi gj = false := by rw [clash_sym]; exact hc
    rw [put_hp] at li hr
    have lb := look_back hc lj li
    have ls : Looks gi s.hp s.hp := lb.symm.trans lb
    have di' : Does P ops i qi s vi gi := di.frame (not_mine fi fj hne hnj).symm (by rw [put_hp]; exact lb)
    have dj' : Does P ops j qj (s.put qi.dst vi (gi.go s.hp)) vj gj := dj.frame (not_mine fj fi hnj hne) (by rw [put_hp]; exact look_on hc ls lj)
    refine ⟨fi, vi, gi, di', ls, okAcc_iff.2 fun x hx => okAcc_iff.1 oi x (List.mem_cons_of_mem _ hx), fj, vj, gj, dj', ?_, okAcc_iff.2 fun x hx hx' => ?_, ?_⟩
    · rw [put_hp]
      have := look_on hc ls lj
      exact this.symm.trans this
    · rcases List.mem_cons.1 hx with e | e
      · subst e; rw [hc'] at hx'; simp at hx'
      · exact okAcc_iff.1 oj x e hx'
    · rw [put_hp]
      refine Run.like (put_put fi fj hij (go_comm hc lj ls)) (fun x hx => ?_) hr
      simp only [List.mem_cons] at hx ⊢; grind
  | true =>
    obtain ⟨fj, vj, gj, dj, lj, oj, fi, qi', di⟩ := h
    have hgo : gj = .no ∨ ∃ id, gj = .rd id := quiet_iff.1 qi' (j, gj) List.mem_cons_self hne
    have hh : ∀ h, gj.go h = h := by intro h; rcases hgo with e | ⟨_, e⟩ <;> subst e <;> rfl
    rw [hh] at di
    refine ⟨fi, quiet_iff.2 fun x hx => quiet_iff.1 qi' x (List.mem_cons_of_mem _ hx), fun s' ha hp rd ρ a w Q next hs hn => ?_⟩
    have ag := not_mine (s := s) (v := vj) (h := s.hp) fi fj hne hnj
    refine di s' ⟨ha.n.trans ag.symm.n, fun x hx => (ha.ev x hx).trans (ag.symm.ev x hx), fun k b d e1 e2 => (ha.gd k b d e1 e2).trans (ag.symm.gd k b d e1 e2)⟩ (hp.trans put_hp.symm) rd ρ a w Q next hs fun v h' ρ' a' w' hΦ => hn v h' ρ' a' w' ⟨?_, ?_⟩
    · obtain ⟨hf, _⟩ := hΦ
      rw [put_hp] at hf
      exact framesP_iff.2 fun x hx => framesP_iff.1 hf x (List.mem_cons_of_mem _ hx)
    · obtain ⟨hf, hr⟩ := hΦ
      rw [put_hp] at hf
      have hl : Looks gj s.hp h' := by
        rcases framesP_iff.1 hf (j, gj) List.mem_cons_self hne with e | ⟨id, e, e'⟩
        · have e : gj = .no := e
          subst e; trivial
        · have e : gj = .rd id := e
          subst e; exact ⟨e', lj.2⟩
      refine ⟨fj, vj, gj, dj.frame (not_mine fj fi hnj hne) (by rw [put_hp]; exact hl), by rw [put_hp]; exact hl.symm.trans hl, oj, ?_⟩
      rw [put_hp, hh]
      exact Run.like (put_put fi fj hij rfl) (fun x hx => hx) hr

theorem Run.fixed {ops : Array Oper} {n : Nat} {K : St → Prop} : ∀ {r1 : List Left} {b : Bool} {i : Nat} {q : Oper} {r2 : List Left} {acc : List (Nat × Fp)} {s : St}, (∀ x ∈ r1, x.1 = false) → Run P ops n K acc (r1 ++ (b, i, q) :: r2) s → Fixed ops.toList n i q
  | [], b, _, _, _, _, _, _, h => by cases b <;> exact h.1
  | (true, j, qj) :: r1, _, _, _, _, _, _, hr, _ => by have := hr _ List.mem_cons_self; simp at this
  | (false, j, qj) :: r1, _, _, _, _, _, _, hr, h => by
    obtain ⟨_, _, _, _, _, _, h⟩ := h
    exact Run.fixed (fun x hx => hr x (List.mem_cons_of_mem _ hx)) h

/-- One whose operations before it are done may be first. -/
theorem Run.first {ops : Array Oper} {n : Nat} {K : St → Prop} {b : Bool} {i : Nat} {qi : Oper} {r2 : List Left} : ∀ {r1 : List Left} {acc : List (Nat × Fp)} {s : St},
    (∀ x ∈ r1, x.1 = false ∧ i ≠ x.2.1 ∧ hasEdge qi.after.toList x.2.1 = false ∧ hasEdge x.2.2.after.toList i = false) → Run P ops n K acc (r1 ++ (b, i, qi) :: r2) s → Run P ops n K acc ((b, i, qi) :: (r1 ++ r2)) s
  | [], _, _, _, h => h
  | (true, j, qj) :: r1, acc, s, hr, h => by have := (hr _ List.mem_cons_self).1; simp at this
  | (false, j, qj) :: r1, acc, s, hr, h => by
    obtain ⟨_, h0, h1, h2⟩ := hr (false, j, qj) List.mem_cons_self
    obtain ⟨fj, vj, gj, dj, lj, oj, h'⟩ := h
    have := Run.first (fun x hx => hr x (List.mem_cons_of_mem _ hx)) h'
    exact Run.swap h0 h1 h2 ⟨fj, vj, gj, dj, lj, oj, this⟩

/-- The order of the operations that are left. -/
structure Ordd (ops : Array Oper) (r : List Left) : Prop where
  is : ∀ x ∈ r, ops[x.2.1]? = some x.2.2
  pw : r.Pairwise fun x y => hasEdge x.2.2.after.toList y.2.1 = false ∧ x.2.1 ≠ y.2.1
  self : ∀ x ∈ r, hasEdge x.2.2.after.toList x.2.1 = false

def Alones : List Left → Prop
  | [] => True
  | (b, i, _) :: r => (b = true → alone (r.map (·.2)) [i] = true) ∧ Alones r

theorem Ordd.sub {ops : Array Oper} {l r : List Left} (h : Ordd ops r) (hs : l.Sublist r) : Ordd ops l := ⟨fun x hx => h.is x (hs.subset hx), h.pw.sublist hs, fun x hx => h.self x (hs.subset hx)⟩

theorem Alones.drop : ∀ {r1 : List Left} {x : Left} {r2 : List Left}, (∀ y ∈ r1, y.1 = false) → Alones (r1 ++ x :: r2) → Alones (r1 ++ r2)
  | [], _, _, _, h => h.2
  | y :: r1, x, r2, hf, h => by
    obtain ⟨b, j, q⟩ := y
    refine ⟨fun e => ?_, Alones.drop (fun z hz => hf z (List.mem_cons_of_mem _ hz)) h.2⟩
    have := hf _ List.mem_cons_self
    simp only at this; rw [this] at e; simp at e

/-- Each call that is alone: what is behind it waits for something that is left. -/
theorem Alones.wait {r1 : List Left} {x : Left} {r2 : List Left} (h : Alones (r1 ++ x :: r2)) {y : Left} (hy : y ∈ r1) (hb : y.1 = true) : ∃ z ∈ r1 ++ x :: r2, hasEdge x.2.2.after.toList z.2.1 = true := by
  induction r1 with
  | nil => simp at hy
  | cons u r1 ih =>
    obtain ⟨b, i, q⟩ := u
    rcases List.mem_cons.1 hy with rfl | hy
    · obtain ⟨j, he, hj⟩ := alone_waits (h.1 hb) x.2 (by simp)
      rcases hj with hj | ⟨z, hz, e⟩
      · simp only [List.mem_singleton] at hj
        subst hj
        exact ⟨_, List.mem_cons_self, he⟩
      · obtain ⟨z', hz', e'⟩ := List.mem_map.1 hz
        subst e' e
        exact ⟨z', List.mem_cons_of_mem _ hz', he⟩
    · obtain ⟨z, hz, he⟩ := ih h.2 hy
      exact ⟨z, List.mem_cons_of_mem _ hz, he⟩

/-- All orders. -/
theorem run_any {rd : Option Nat} {ops : Array Oper} {n : Nat} {K : St → Prop} {Q : Exit → Act → World → Prop} : ∀ (fuel : Nat) (r : List Left) (acc : List (Nat × Fp)) (listed : Array Bool) {s : St} {a : Act} {w : World} {ρ : Ro},
    r.length = fuel → Ordd ops r → Alones r → (∀ i, listed.getD i true = false ↔ ∃ x ∈ r, x.2.1 = i) → listed.size = ops.size → s.n = n →
    Run P ops n K acc r s → RelS ρ s a w →
    (∀ f ρ' a' w', K f → RelS ρ' f a' w' → Stp ρ s.hp w ρ' f.hp w' → Q .normal a' w') → wpAnyIn (fen rd) 0 P .any ops Q fuel listed a w := by
  intro fuel
  induction fuel with
  | zero =>
    intro r acc listed s a w ρ hl _ _ hli _ _ hr hs hf
    have : r = [] := List.length_eq_zero_iff.1 hl
    subst this
    obtain ⟨f, hk, hlk⟩ := hr
    refine ⟨?_, hf f ρ a w hk (RelS.same hlk.ev hlk.n hlk.hp hs) (hlk.hp ▸ Stp.refl _ _ _)⟩
    rw [List.eq_nil_iff_forall_not_mem]
    intro i hi
    obtain ⟨h0, _⟩ := mem_ready.1 hi
    obtain ⟨q, hq, _⟩ := (hli i).1 h0
    simp at hq
  | succ fuel ih =>
    intro r acc listed s a w ρ hl hord hal hli hsz hsn hr hs hf
    have low : ∀ {i : Nat}, listed.getD i true = false → i < listed.size := by
      intro i h
      rcases Nat.lt_or_ge i listed.size with h' | h'
      · exact h'
      · simp [Array.getElem?_eq_none h'] at h
    have isl : ∀ {i : Nat}, i < ops.size → (¬ ∃ x ∈ r, x.2.1 = i) → listed.getD i false = true := by
      intro i hi hn
      have : listed.getD i true = true := by
        cases e : listed.getD i true with
        | true => rfl
        | false => exact absurd ((hli i).1 e) hn
      have h' : i < listed.size := by omega
      simpa [Array.getD, h'] using this
    constructor
    · intro hready
      exfalso
      cases r with
      | nil => simp at hl
      | cons x r =>
        obtain ⟨b, i, q⟩ := x
        have hfx : Fixed ops.toList n i q := Run.fixed (r1 := []) (fun _ h => by simp at h) hr
        have : i ∈ Region.ready .any ops listed := by
          refine mem_ready.2 ⟨(hli i).2 ⟨_, List.mem_cons_self, rfl⟩, q, by simpa using hfx.is, fun e he hb => ?_⟩
          rw [bind_any rfl] at hb
          have hlt := edgesLt_iff.1 hfx.lt e (by simpa using he) hb
          refine isl (by simpa using hlt) ?_
          rintro ⟨x', hx', ex⟩
          have hedge : hasEdge q.after.toList e.on = true := hasEdge_iff.2 ⟨e, by simpa using he, hb, rfl⟩
          rw [← ex] at hedge
          rcases List.mem_cons.1 hx' with e' | e'
          · subst e'
            have := hord.self _ List.mem_cons_self
            simp only at this hedge; rw [this] at hedge; simp at hedge
          · have := ((List.pairwise_cons.1 hord.pw).1 _ e').1
            simp only at this; rw [this] at hedge; simp at hedge
        rw [hready] at this; simp at this
    · intro i hi
      obtain ⟨h0, q, hq, hall⟩ := mem_ready.1 hi
      obtain ⟨x', hx', ei⟩ := (hli i).1 h0
      obtain ⟨b, i', q'⟩ := x'
      simp only at ei; subst ei
      obtain ⟨r1, r2, rfl⟩ := List.append_of_mem hx'
      have hp' := List.pairwise_append.1 hord.pw
      have hqq : q = q' := by
        have := hord.is _ hx'
        simp only at this
        rw [hq] at this; simpa using this
      subst hqq
      have nowait : ∀ z ∈ r1 ++ (b, i', q) :: r2, hasEdge q.after.toList z.2.1 = true → False := by
        intro z hz hb
        obtain ⟨e, he, heb, heo⟩ := hasEdge_iff.1 hb
        have hlis := hall e (by simpa using he) (by rw [bind_any rfl]; exact heb)
        rw [heo] at hlis
        have hx' : listed.getD z.2.1 true = false := (hli z.2.1).2 ⟨z, hz, rfl⟩
        have hlt := low hx'
        simp [Array.getD, hlt] at hlis hx'
        rw [hlis] at hx'; simp at hx'
      have quiet1 : ∀ y ∈ r1, y.1 = false := by
        intro y hy
        cases hb : y.1 with
        | false => rfl
        | true =>
          obtain ⟨z, hz, he⟩ := hal.wait hy hb
          exact (nowait z hz he).elim
      have hfirst : Run P ops n K acc ((b, i', q) :: (r1 ++ r2)) s := by
        refine Run.first (fun x hx => ⟨quiet1 x hx, ?_, ?_, ?_⟩) hr
        · exact (hp'.2.2 x hx _ List.mem_cons_self).2.symm
        · cases hb : hasEdge q.after.toList x.2.1 with
          | false => rfl
          | true => exact (nowait x (List.mem_append_left _ hx) hb).elim
        · exact (hp'.2.2 x hx _ List.mem_cons_self).1
      have hord' : Ordd ops (r1 ++ r2) := hord.sub (List.Sublist.append (List.Sublist.refl _) (List.sublist_cons_self _ _))
      have hal' : Alones (r1 ++ r2) := hal.drop quiet1
      have hli' : ∀ k, (listed.set! i' true).getD k true = false ↔ ∃ x ∈ r1 ++ r2, x.2.1 = k := by
        intro k
        have uniq : ∀ x ∈ r1 ++ r2, x.2.1 ≠ i' := by
          intro x hm
          rcases List.mem_append.1 hm with h' | h'
          · exact (hp'.2.2 _ h' _ List.mem_cons_self).2
          · exact ((List.pairwise_cons.1 hp'.2.1).1 _ h').2.symm
        by_cases hik : i' = k
        · subst hik
          constructor
          · intro h
            have hlt := low h0
            simp [Array.getD, hlt] at h
          · rintro ⟨x, hx, e⟩; exact absurd e (uniq x hx)
        · rw [Array.set!_eq_setIfInBounds, getD_set_ne true hik, hli k]
          constructor
          · rintro ⟨x, hx, e⟩
            refine ⟨x, ?_, e⟩
            rcases List.mem_append.1 hx with h' | h'
            · exact List.mem_append_left _ h'
            · rcases List.mem_cons.1 h' with h'' | h''
              · subst h''; exact absurd e hik
              · exact List.mem_append_right _ h''
          · rintro ⟨x, hx, e⟩
            refine ⟨x, ?_, e⟩
            rcases List.mem_append.1 hx with h' | h'
            · exact List.mem_append_left _ h'
            · exact List.mem_append_right _ (List.mem_cons_of_mem _ h')
      cases b with
      | false =>
        obtain ⟨hfx, v, fp, hd, hlk, _, hrun⟩ := hfirst
        refine hd s ⟨rfl, fun _ _ => rfl, fun _ _ _ _ _ => rfl⟩ hlk rd ρ a w Q _ hs fun ρ' a' w' hput hst => ?_
        refine ih (r1 ++ r2) _ _ (by simp at hl ⊢; omega) hord' hal' hli' (by simp [hsz]) (by rw [put_n]; exact hsn) hrun hput ?_
        intro f ρ'' a'' w'' hk hr'' hst''
        rw [put_hp] at hst''
        exact hf f ρ'' a'' w'' hk hr'' (StpN.trans' hst hst'')
      | true =>
        obtain ⟨hfx, _, hd⟩ := hfirst
        refine hd s ⟨rfl, fun _ _ => rfl, fun _ _ _ _ _ => rfl⟩ rfl rd ρ a w Q _ hs fun v h' ρ' a' w' hΦ hput hst => ?_
        refine ih (r1 ++ r2) _ _ (by simp at hl ⊢; omega) hord' hal' hli' (by simp [hsz]) (by rw [put_n]; exact hsn) hΦ.2 hput ?_
        intro f ρ'' a'' w'' hk hr'' hst''
        rw [put_hp] at hst''
        exact hf f ρ'' a'' w'' hk hr'' (StpN.trans' hst hst'')

end
end Go.Pt
