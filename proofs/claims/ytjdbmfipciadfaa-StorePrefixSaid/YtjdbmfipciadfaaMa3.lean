/- A region whose order is drawn: all its orders end alike. -/import Derived.Test.YtjdbmfipciadfaaMa2
import Derived.ProofKit
namespace Go.Pt
open Go
section
variable {P : Program} {n₀ : Nat} {tab : Nat → Ty} {J : Jd}
def Looks (fp : Fp) (h h' : List Ent) : Prop :=
  match fp with
  | .no => True
  | .rd i => nth h' i = nth h i ∧ ∃ e, nth h i = some e
  | .wr i _ => nth h' i = nth h i ∧ ∃ e, nth h i = some e
  | .new i _ => lenN h' = lenN h ∧ lenN h = i
  | .nrd i _ r => lenN h' = lenN h ∧ lenN h = i ∧ nth h' r = nth h r ∧ ∃ e, nth h r = some e
  | .mv i k _ r => nth h' i = nth h i ∧ (∃ e, nth h i = some e) ∧ lenN h' = lenN h ∧ lenN h = k ∧ nth h' r = nth h r ∧ ∃ e, nth h r = some e
theorem famOf_look {t : Nat} {h h' : List Ent} (hl : nth h' t = nth h t) : famOf h' t = famOf h t := by unfold famOf; rw [hl]
theorem famOf_nth {t i : Nat} {h : List Ent} {os : List AV} (e : famOf h t = some (i, os)) : i = t ∧ nth h t = some (.fam t os) := by
  have h1 := famOf_at e
  subst h1
  exact ⟨rfl, by rw [nth_eq]; exact famOf_get e⟩
theorem read_of {op : Op} (hr : readOp op = true) {s : St} {K : AV → Prop} (h : aop (std P n₀) tab op s (fun v _ => K v) (fun _ _ => False)) :
    ∃ v, K v ∧ Looks (fpR op s) s.hp s.hp ∧ ∀ s' : St, (∀ x ∈ op.operands, s'.ev x = s.ev x) → Looks (fpR op s) s.hp s'.hp → ∀ K' E : AV → List Ent → Prop, K' v s'.hp → aop (std P n₀) tab op s' K' E := by
  cases op <;> simp only [readOp, Bool.false_eq_true] at hr
  all_goals simp only [Op.operands, List.mem_toArray, List.mem_cons, List.not_mem_nil, or_false, forall_eq, forall_eq_or_imp]
  case load t x =>
    simp only [aop] at h
    split at h
    · rename_i id off e
      split at h
      · rename_i cs hc
        split at h
        · rename_i v hv
          refine ⟨v, h, by simp [fpR, e, Looks, hc], fun s' he hl K' E' hk => ?_⟩
          have hl' : nth s'.hp id = nth s.hp id := by simp only [fpR, e, Looks] at hl; exact hl.1
          simp only [aop, he, e, hl', hc, hv]
          exact hk
        · exact h.elim
      · exact h.elim
    · rename_i cs off e
      split at h
      · rename_i v hv
        refine ⟨v, h, by simp [fpR, e, Looks], fun s' he hl K' E' hk => ?_⟩
        simp only [aop, he, e, hv]
        exact hk
      · exact h.elim
    · rename_i id z i off e
      split at h
      case h_2 => exact h.elim
      rename_i z' xs hc
      split at h
      case h_2 => exact h.elim
      rename_i hz
      obtain ⟨hin, h⟩ := h
      have hin' : 0 ≤ i ∧ i < (xs.length : Int) := hin
      obtain ⟨x0, hx0⟩ := at_some hin'
      have h := h x0 hx0
      simp only at h
      split at h
      case h_2 => exact h.elim
      rename_i v hv
      refine ⟨v, h, by simp [fpR, e, Looks, hc], fun s' he hl K' E' hk => ?_⟩
      have hl' : nth s'.hp id = nth s.hp id := by simp only [fpR, e, Looks] at hl; exact hl.1
      simp only [aop, he, e, hl', hc, hz]
      refine ⟨hin, fun x1 hx1 => ?_⟩
      replace hx1 : xs[i.toNat]? = some x1 := hx1
      rw [hx0] at hx1; simp only [Option.some.injEq] at hx1; subst hx1
      simp only [hv]; exact hk
    · rename_i f i off e
      split at h
      case h_2 => exact h.elim
      rename_i id os hc
      obtain ⟨rfl, hn⟩ := famOf_nth hc
      obtain ⟨hin, h⟩ := h
      have hin' : 0 ≤ i ∧ i < (os.length : Int) := hin
      obtain ⟨x0, hx0⟩ := at_some hin'
      have h := h x0 hx0
      simp only at h
      split at h
      case h_2 => exact h.elim
      rename_i v hv
      refine ⟨v, h, by simp [fpR, e, Looks, hc, hn], fun s' he hl K' E' hk => ?_⟩
      have hl' : nth s'.hp id = nth s.hp id := by simp only [fpR, e, hc, Looks] at hl; exact hl.1
      simp only [aop, he, e, famOf_look hl', hc]
      refine ⟨hin, fun x1 hx1 => ?_⟩
      replace hx1 : os[i.toNat]? = some x1 := hx1
      rw [hx0] at hx1; simp only [Option.some.injEq] at hx1; subst hx1
      simp only [hv]; exact hk
    · exact h.elim
  case lookup t x k cok =>
    simp only [aop] at h
    have key : ∃ v, K v ∧ Looks (fpR (.lookup t x k cok) s) s.hp s.hp ∧ ∀ h' : List Ent, Looks (fpR (.lookup t x k cok) s) s.hp h' → ∀ K' : AV → Prop, K' v → lkA (std P n₀) tab (tab t) (s.ev x) (s.ev k) cok h' K' := by
      unfold lkA at h ⊢
      split at h
      case h_2 => exact h.elim
      split at h
      · exact h.elim
      split at h
      · exact h.elim
      split at h
      · exact h.elim
      rename_i z hz
      split at h
      · rename_i e
        refine ⟨_, h, by simp [fpR, e, Looks], fun h' hl K' hk => ?_⟩
        simp only [*]
      · rename_i id e
        split at h
        · rename_i es hes
          obtain ⟨h1, h2, h3⟩ := h
          cases hm : mfind es (s.ev k) with
          | none =>
            refine ⟨_, h3 hm, by simp [fpR, e, Looks, hes], fun h' hl K' hk => ?_⟩
            have hl' : nth h' id = nth s.hp id := by simp only [fpR, e, Looks] at hl; exact hl.1
            simp only [hl', hes]
            exact ⟨h1, fun v hv => by have hv : mfind es (s.ev k) = some v := hv; rw [hm] at hv; simp at hv, fun _ => hk⟩
          | some v =>
            refine ⟨_, h2 v hm, by simp [fpR, e, Looks, hes], fun h' hl K' hk => ?_⟩
            have hl' : nth h' id = nth s.hp id := by simp only [fpR, e, Looks] at hl; exact hl.1
            simp only [hl', hes]
            exact ⟨h1, fun v' hv => by have hv : mfind es (s.ev k) = some v' := hv; rw [hm] at hv; simp at hv; subst hv; exact hk, fun hn => by have hn : mfind es (s.ev k) = none := hn; rw [hm] at hn; simp at hn⟩
        · exact h.elim
      · exact h.elim
    obtain ⟨v, hk, hlk, hv⟩ := key
    refine ⟨v, hk, hlk, fun s' he hl K' E' hk' => ?_⟩
    simp only [aop, he.1, he.2]
    exact hv s'.hp hl (fun v => K' v s'.hp) hk'
theorem write_of {op : Op} {s : St} {F : Prop} {k : AV → Fp → Prop} (h : dopW (std P n₀) tab op s F k) :
    F ∨ ∃ v fp, k v fp ∧ (Looks fp s.hp s.hp) ∧ ∀ s' : St, (∀ x ∈ op.operands, s'.ev x = s.ev x) → Looks fp s.hp s'.hp → ∀ K' E : AV → List Ent → Prop, K' v (fp.go s'.hp) → aop (std P n₀) tab op s' K' E := by
  cases op <;> simp only [dopW] at h <;> try exact .inl h
  all_goals simp only [Op.operands, List.mem_toArray, List.mem_cons, List.not_mem_nil, or_false, forall_eq, forall_eq_or_imp]
  case store t x v =>
    split at h
    case h_4 => exact .inl h
    case h_3 =>
      rename_i f i off e
      split at h
      case h_2 => exact .inl h
      rename_i id os hc
      obtain ⟨rfl, hn⟩ := famOf_nth hc
      split at h
      case h_2 => exact .inl h
      rename_i h1
      split at h
      case h_2 => exact .inl h
      rename_i h2
      split at h
      case h_2 => exact .inl h
      rename_i ys h3
      obtain ⟨hin, h⟩ := h
      have hin' : 0 ≤ i ∧ i < (os.length : Int) := hin
      obtain ⟨x0, hx0⟩ := at_some hin'
      have h := h x0 hx0
      simp only at h
      split at h
      case h_2 => exact .inl h
      rename_i cs' h4
      refine .inr ⟨_, _, h, ⟨rfl, _, hn⟩, fun s' he hl K' E' hk => ?_⟩
      obtain ⟨hl, _⟩ := hl
      simp only [aop, he.1, he.2, e, famOf_look hl, hc, h1, h2, h3]
      refine ⟨hin, fun x1 hx1 => ?_⟩
      replace hx1 : os[i.toNat]? = some x1 := hx1
      rw [hx0] at hx1; simp only [Option.some.injEq] at hx1; subst hx1
      simp only [h4]; exact hk
    case h_2 =>
      rename_i id z i off e
      split at h
      case h_2 => exact .inl h
      rename_i z' xs hc
      split at h
      case h_2 => exact .inl h
      rename_i h1
      split at h
      case h_2 => exact .inl h
      rename_i h2
      split at h
      case h_2 => exact .inl h
      rename_i h3
      split at h
      case h_2 => exact .inl h
      rename_i ys h4
      split at h
      case h_2 =>
        rename_i h5
        obtain ⟨hin, h⟩ := h
        have hin' : 0 ≤ i ∧ i < (xs.length : Int) := hin
        obtain ⟨x0, hx0⟩ := at_some hin'
        have h := h x0 hx0
        simp only at h
        split at h
        case h_2 => exact .inl h
        rename_i cs
        split at h
        case h_2 => exact .inl h
        rename_i cs' h6
        refine .inr ⟨_, _, h, ⟨rfl, _, hc⟩, fun s' he hl K' E' hk => ?_⟩
        obtain ⟨hl, _⟩ := hl
        simp only [aop, he.1, he.2, e, hl, hc, h1, h2, h3, h4, h5]
        refine ⟨hin, fun x1 hx1 => ?_⟩
        replace hx1 : xs[i.toNat]? = some x1 := hx1
        rw [hx0] at hx1; simp only [Option.some.injEq] at hx1; subst hx1
        simp only [h6]; exact hk
      rename_i h5
      split at h
      case h_2 => exact .inl h
      obtain ⟨h6, h⟩ := h
      refine .inr ⟨_, _, h, ⟨rfl, _, hc⟩, fun s' he hl K' E' hk => ?_⟩
      obtain ⟨hl, _⟩ := hl
      simp only [aop, he.1, he.2, e, hl, hc, h1, h2, h3, h4, h5]
      exact ⟨h6, hk⟩
    rename_i id off e
    split at h
    case h_2 => exact .inl h
    rename_i cs hc
    split at h
    case h_2 => exact .inl h
    rename_i h1
    split at h
    case h_2 => exact .inl h
    rename_i h2
    split at h
    case h_2 => exact .inl h
    rename_i h3
    split at h
    case h_2 => exact .inl h
    rename_i cs' h4
    refine .inr ⟨_, _, h, ⟨rfl, _, hc⟩, fun s' he hl K' E' hk => ?_⟩
    obtain ⟨hl, _⟩ := hl
    simp only [aop, he.1, he.2, e, hl, hc, h1, h2, h3, h4]
    exact hk
  case alloc t =>
    split at h
    · rename_i h1
      split at h
      · rename_i p hp
        split at h
        case h_2 => exact .inl h
        rename_i z hz
        split at h
        case h_2 => exact .inl h
        rename_i id os hc
        obtain ⟨rfl, hn⟩ := famOf_nth hc
        refine .inr ⟨_, _, h, ⟨rfl, _, hn⟩, fun s' he hl K' E' hk => ?_⟩
        obtain ⟨hl, _⟩ := hl
        simp only [aop, h1, hp, hz, famOf_look hl, hc]; exact hk
      rename_i hp
      refine .inr ⟨_, _, h, ⟨rfl, rfl⟩, fun s' he hl K' E' hk => ?_⟩
      have hl : lenN s'.hp = lenN s.hp := hl.1
      simp only [aop, h1, hp, hl]; exact hk
    · exact .inl h
  case box t x =>
    split at h
    · rename_i h1
      split at h
      · rename_i p hp
        split at h
        case h_2 => exact .inl h
        rename_i ys hz
        split at h
        case h_2 => exact .inl h
        rename_i id os hc
        obtain ⟨rfl, hn⟩ := famOf_nth hc
        refine .inr ⟨_, _, h, ⟨rfl, _, hn⟩, fun s' he hl K' E' hk => ?_⟩
        obtain ⟨hl, _⟩ := hl
        simp only [aop, he, h1, hp, hz, famOf_look hl, hc]; exact hk
      rename_i hp
      refine .inr ⟨_, _, h, ⟨rfl, rfl⟩, fun s' he hl K' E' hk => ?_⟩
      have hl : lenN s'.hp = lenN s.hp := hl.1
      simp only [aop, he, h1, hp, hl]; exact hk
    · exact .inl h
  case makeMap t r =>
    cases r with
    | none =>
      refine .inr ⟨_, _, h, ⟨rfl, rfl⟩, fun s' he hl K' E' hk => ?_⟩
      have hl : lenN s'.hp = lenN s.hp := hl.1
      simp only [aop, hl]; exact hk
    | some _ => exact .inl h
  case mapUpdate t m kk v =>
    split at h
    case h_2 => exact .inl h
    rename_i kt et hm
    split at h
    · exact .inl h
    rename_i h1
    split at h
    · exact .inl h
    rename_i h2
    split at h
    case h_2 => exact .inl h
    rename_i id e
    split at h
    case h_2 => exact .inl h
    rename_i es hes
    split at h
    case h_2 => exact .inl h
    rename_i ys hfr
    obtain ⟨h3, h⟩ := h
    refine .inr ⟨_, _, h, ⟨rfl, _, hes⟩, fun s' he hl K' E' hk => ?_⟩
    obtain ⟨hl, _⟩ := hl
    simp only [aop, muA, he.1, he.2.1, he.2.2, hm, h1, h2, e, hl, hes, hfr]
    exact ⟨h3, hk⟩
  case slice t x lo hi mx =>
    cases mx with
    | none => exact .inl h
    | some m =>
    cases hi with
    | none => exact .inl h
    | some hi =>
    simp only at h
    split at h
    case h_2 => exact .inl h
    rename_i e' hk
    split at h
    · exact .inl h
    rename_i hok
    split at h
    case h_2 => exact .inl h
    rename_i z xs tk hx
    split at h
    · exact .inl h
    rename_i hz
    split at h
    case h_2 => exact .inl h
    rename_i k1 hv hh
    split at h
    case h_2 => exact .inl h
    rename_i k2 mv hm
    split at h
    · obtain ⟨p1, p2, p3, p4, h⟩ := h
      have p4 : hv = mv := p4
      refine .inr ⟨_, _, h, trivial, fun s' he hl K' E' hk' => ?_⟩
      have e1 := he x (by simp); have e2 := he hi (by simp); have e3 := he m (by simp)
      simp only [aop, optI, e1, e2, e3, hh, hm, slA, hk, hok, hx, hz, slX]
      exact ⟨p1, p2, p3, fun t ht => by rw [ht p4]; exact hk'⟩
    · rename_i lo
      split at h
      case h_2 => exact .inl h
      rename_i k3 lv hl0
      obtain ⟨p1, p2, p3, p4, p5, h⟩ := h
      have p5 : hv = mv := p5
      refine .inr ⟨_, _, h, trivial, fun s' he hl K' E' hk' => ?_⟩
      have e1 := he x (by simp); have e2 := he hi (by simp); have e3 := he m (by simp); have e4 := he lo (by simp)
      simp only [aop, optI, e1, e2, e3, e4, hh, hm, hl0, slA, hk, hok, hx, hz, slX]
      exact ⟨p1, p2, p3, p4, fun t ht => by rw [ht p5]; exact hk'⟩
  case call c =>
    obtain ⟨callee, args, ts⟩ := c
    cases callee <;> try exact .inl h
    rename_i b
    have hevb : ∀ (s' : St), (∀ x ∈ (Op.call ⟨.builtin b, args, ts⟩).operands, s'.ev x = s.ev x) → evs s' args.toList = evs s args.toList := fun s' he => evs_eq' fun x hx => he x (by simp [Op.operands, Call.operands]; simpa using hx)
    cases b <;> try exact .inl h
    case delete =>
      simp only at h
      split at h
      case h_2 => exact .inl h
      rename_i m kk hxy
      split at h
      case h_2 => exact .inl h
      rename_i t l hts
      split at h
      case h_2 => exact .inl h
      rename_i kt et hm
      split at h
      · exact .inl h
      rename_i h1
      split at h
      · exact .inl h
      rename_i h2
      split at h
      case h_2 => exact .inl h
      rename_i id
      split at h
      case h_2 => exact .inl h
      rename_i es hes
      obtain ⟨h3, h⟩ := h
      refine .inr ⟨_, _, h, ⟨rfl, _, hes⟩, fun s' he hl K' E' hk => ?_⟩
      obtain ⟨hl, _⟩ := hl
      have hev := hevb s' (by simpa [Op.operands, Call.operands] using he)
      simp only [aop, hev, hxy, hts, dlA, hm, h1, h2, hl, hes]
      exact ⟨h3, hk⟩
    case clear =>
      simp only at h
      split at h
      case h_2 => exact .inl h
      rename_i m hxy
      split at h
      case h_2 => exact .inl h
      rename_i t l hts
      split at h
      case h_2 => exact .inl h
      rename_i kt et hm
      split at h
      case h_2 => exact .inl h
      rename_i id
      split at h
      case h_2 => exact .inl h
      rename_i es hes
      refine .inr ⟨_, _, h, ⟨rfl, _, hes⟩, fun s' he hl K' E' hk => ?_⟩
      obtain ⟨hl, _⟩ := hl
      have hev := hevb s' (by simpa [Op.operands, Call.operands] using he)
      simp only [aop, hev, hxy, hts, clA, hm, hl, hes]
      exact hk
    simp only at h
    have hev : ∀ (s' : St), (∀ x ∈ (Op.call ⟨.builtin .append, args, ts⟩).operands, s'.ev x = s.ev x) → evs s' args.toList = evs s args.toList := fun s' he => evs_eq' fun x hx => he x (by simp [Op.operands, Call.operands]; simpa using hx)
    split at h
    case h_2 => exact .inl h
    rename_i x y hxy
    split at h
    case h_2 => exact .inl h
    rename_i t u l hts
    split at h
    case h_2 => exact .inl h
    rename_i e hk
    split at h
    case h_2 =>
      rename_i _ hmd
      have red : ∀ (s' : St) (K' E' : AV → List Ent → Prop), evs s' args.toList = [x, y] → apV (std P n₀) (tab t).md (tab u) (tab e) x y s'.hp K' → aop (std P n₀) tab (.call ⟨.builtin .append, args, ts⟩) s' K' E' := by
        intro s' K' E' he ha
        simp only [aop, he, bi, hts, hk]
        exact ha
      have ops : ∀ (s' : St), (∀ x ∈ (Op.call ⟨.builtin .append, args, ts⟩).operands.toList, s'.ev x = s.ev x) → evs s' args.toList = [x, y] := fun s' he => (hev s' (by simpa using he)).trans hxy
      unfold apW at h
      split at h
      case h_2 => exact .inl h
      rename_i hb
      split at h
      case h_2 => exact .inl h
      rename_i hsz
      split at h
      case h_2 => exact .inl h
      rename_i e' hu
      split at h
      · rename_i ys tk hy
        have hsrc : ∀ h', srcV (std P n₀) (tab u) (tab e) y h' = some (ys, True) := by
          intro h'
          unfold srcV
          simp only [hu]
          cases y <;> simp only [hy] <;> simp [asSl] at hy
        split at h
        · rename_i id zz lo n N
          split at h
          case h_2 => exact .inl h
          rename_i hz
          split at h
          case h_2 => exact .inl h
          rename_i z' xs hid
          split at h
          case h_2 => exact .inl h
          rename_i hz'
          split at h
          case h_2 => exact .inl h
          rename_i hm1
          obtain ⟨p1, p2, p3, p4, h⟩ := h
          refine .inr ⟨_, _, h, ⟨rfl, ⟨_, hid⟩, rfl, rfl, rfl, _, hid⟩, fun s' he hl K' E' hk' => ?_⟩
          obtain ⟨hl1, _, hl2, _, _⟩ := hl
          refine red s' K' E' (ops s' (by simpa [Op.operands, Call.operands] using he)) ?_
          unfold apV
          simp only [hu, hb, hsz, hsrc, hz, hl1, hid, hz', hl2, hm1]
          exact ⟨trivial, p1, p2, p3, p4, hk'⟩
        · rename_i hnv'
          split at h
          case h_2 => exact .inl h
          rename_i xs hx
          obtain ⟨p1, p2, h⟩ := h
          refine .inr ⟨_, _, h, ⟨rfl, rfl⟩, fun s' he hl K' E' hk' => ?_⟩
          obtain ⟨hl1, _⟩ := hl
          refine red s' K' E' (ops s' (by simpa [Op.operands, Call.operands] using he)) ?_
          unfold apV
          simp only [hu, hb, hsz, hsrc, hl1]
          refine ⟨trivial, ?_⟩
          cases x <;> first
            | exact (hnv' _ _ _ _ _ rfl).elim
            | (simp only [hx]; exact ⟨p1, p2, hk'⟩)
            | (simp [asSl] at hx; done)
      · rename_i hy
        split at h
        case h_2 => exact .inl h
        rename_i iy zy ly ny Ny
        split at h
        case h_2 => exact .inl h
        rename_i hzy
        split at h
        case h_2 => exact .inl h
        rename_i zy' xy hiy
        split at h
        case h_2 => exact .inl h
        rename_i hzy'
        obtain ⟨q1, q2, q3, h⟩ := h
        split at h
        case h_2 =>
          rename_i hnv'
          split at h
          case h_2 => exact .inl h
          rename_i xs hx
          obtain ⟨p1, p2, h⟩ := h
          refine .inr ⟨_, _, h, ⟨rfl, rfl, rfl, _, hiy⟩, fun s' he hl K' E' hk' => ?_⟩
          obtain ⟨hl1, _, hl3, _⟩ := hl
          refine red s' K' E' (ops s' (by simpa [Op.operands, Call.operands] using he)) ?_
          unfold apV srcV
          simp only [hb, hsz, hu, hzy, hl3, hiy, hzy', hl1]
          refine ⟨⟨q1, q2, q3⟩, ?_⟩
          cases x <;> first
            | exact (hnv' _ _ _ _ _ rfl).elim
            | (simp only [hx]; exact ⟨p1, p2, hk'⟩)
            | (simp [asSl] at hx; done)
        rename_i id zz lo n N
        split at h
        case h_2 =>
          rename_i hii
          split at h
          case h_2 => exact .inl h
          rename_i hz
          split at h
          case h_2 => exact .inl h
          rename_i z' xs hid
          split at h
          case h_2 => exact .inl h
          rename_i hz'
          split at h
          case h_2 => exact .inl h
          rename_i hmd1
          obtain ⟨p1, p2, p3, p4, h⟩ := h
          refine .inr ⟨_, _, h, ⟨rfl, ⟨_, hid⟩, rfl, rfl, rfl, _, hiy⟩, fun s' he hl K' E' hk' => ?_⟩
          obtain ⟨hl1, _, hl2, _, hl3, _⟩ := hl
          refine red s' K' E' (ops s' (by simpa [Op.operands, Call.operands] using he)) ?_
          unfold apV srcV
          simp only [hb, hsz, hu, hzy, hl3, hiy, hzy', hz, hl1, hid, hz', hl2, hmd1]
          exact ⟨⟨q1, q2, q3⟩, p1, p2, p3, p4, hk'⟩
        rename_i hii
        have hii' := beN_t hii
        subst hii'
        split at h
        case h_2 => exact .inl h
        rename_i hz
        split at h
        · exact .inl h
        rename_i hmd1
        obtain ⟨p1, p2, p3, p4, p5, h⟩ := h
        refine .inr ⟨_, _, h, ⟨rfl, _, hiy⟩, fun s' he hl K' E' hk' => ?_⟩
        obtain ⟨hl1, _⟩ := hl
        refine red s' K' E' (ops s' (by simpa [Op.operands, Call.operands] using he)) ?_
        unfold apV srcV
        simp only [hb, hsz, hu, hzy, hl1, hiy, hzy', hz]
        refine ⟨⟨q1, q2, q3⟩, ?_⟩
        exact ⟨p1, p2, p3, p4, p5, hk'⟩
    rename_i hmd
    split at h
    case h_2 => exact .inl h
    rename_i hb
    split at h
    · exact .inl h
    rename_i xs tok hx
    split at h
    case h_2 => exact .inl h
    rename_i e' hu
    split at h
    · exact .inl h
    rename_i ys tk hy
    obtain ⟨hroom, h⟩ := h
    have red : ∀ (s' : St) (K' E' : AV → List Ent → Prop), evs s' args.toList = [x, y] → app (std P n₀) (tab e).size xs ys tok s'.hp K' → aop (std P n₀) tab (.call ⟨.builtin .append, args, ts⟩) s' K' E' := by
      intro s' K' E' he ha
      simp only [aop, he, bi, hts, hk, hmd, apA, hb, hx, hu, hy]
      exact ⟨hroom, ha⟩
    unfold appW at h
    cases tok with
    | no => exact .inl h
    | full =>
      refine .inr ⟨_, _, h, ⟨rfl, rfl⟩, fun s' he hl K' E' hk' => ?_⟩
      have hl : lenN s'.hp = lenN s.hp := hl.1
      have he' : ∀ x' ∈ (Op.call ⟨.builtin .append, args, ts⟩).operands, s'.ev x' = s.ev x' := by simpa [Op.operands, Call.operands] using he
      refine red s' K' E' ((hev s' he').trans hxy) ?_
      simp only [app, hl]; exact hk'
    | tip id pos =>
      simp only at h
      split at h
      case h_2 => exact .inl h
      rename_i p hp
      obtain ⟨hpp, h⟩ := h
      refine .inr ⟨_, _, h, ⟨rfl, _, hp⟩, fun s' he hl K' E' hk' => ?_⟩
      obtain ⟨hl, _⟩ := hl
      have he' : ∀ x' ∈ (Op.call ⟨.builtin .append, args, ts⟩).operands, s'.ev x' = s.ev x' := by simpa [Op.operands, Call.operands] using he
      refine red s' K' E' ((hev s' he').trans hxy) ?_
      simp only [app, hl, hp]; exact ⟨hpp, hk'⟩
def Does (P : Program) (ops : Array Oper) (i : Nat) (q : Oper) (s : St) (v : AV) (fp : Fp) : Prop :=
  ∀ s' : St, Agree ops.toList q s s' → Looks fp s.hp s'.hp → ∀ (rd : Option Nat) (ρ : Ro) (a : Act) (w : World) (Q : Exit → Act → World → Prop) (next : Act → World → Prop), RelS ρ s' a w →
    (∀ ρ' a' w', RelS ρ' (s'.put q.dst v (fp.go s'.hp)) a' w' → Stp ρ s'.hp w ρ' (fp.go s'.hp) w' → next a' w') → wpOpIn (fen rd) 0 P ops Q i next a w
theorem Looks.trans {fp : Fp} {h h' h'' : List Ent} (a : Looks fp h h') (b : Looks fp h' h'') : Looks fp h h'' := by
  cases fp with
  | no => trivial
  | rd i => exact ⟨b.1.trans a.1, a.2⟩
  | wr i e => exact ⟨b.1.trans a.1, a.2⟩
  | new i e => exact ⟨b.1.trans a.1, a.2⟩
  | nrd i e r => exact ⟨b.1.trans a.1, a.2.1, b.2.2.1.trans a.2.2.1, a.2.2.2⟩
  | mv i k e r => exact ⟨b.1.trans a.1, a.2.1, b.2.2.1.trans a.2.2.1, a.2.2.2.1, b.2.2.2.2.1.trans a.2.2.2.2.1, a.2.2.2.2.2⟩
theorem Does.frame {ops : Array Oper} {i : Nat} {q : Oper} {s t : St} {v : AV} {fp : Fp} (h : Does P ops i q s v fp) (he : Agree ops.toList q s t) (hp : Looks fp s.hp t.hp) : Does P ops i q t v fp :=
  fun s' ha hp' => h s' ⟨ha.n.trans he.n, fun x hx => (ha.ev x hx).trans (he.ev x hx), fun j b d h1 h2 => (ha.gd j b d h1 h2).trans (he.gd j b d h1 h2)⟩ (hp.trans hp')
def Wanted (ops : Array Oper) (q : Oper) (s : St) (g : Bool) : Prop := ∀ s' : St, Agree ops.toList q s s' → ∀ (ρ : Ro) (a : Act) (w : World), RelS ρ s' a w → Region.wanted q (yielded ops a.tmps) = g
theorem Wanted.none {ops : Array Oper} {q : Oper} {s : St} (hg : q.guard = .none) : Wanted ops q s true := fun s' _ ρ a w _ => by simp [Region.wanted, hg]
theorem Wanted.of {ops : Array Oper} {q : Oper} {s : St} {j d : Nat} {b : Bool} {g : Option Bool} (hg : q.guard = some (j, b)) (hd : (nth ops.toList j).bind (·.dst) = some d) (h : gOf (std P n₀) b (look s.env d) = some g) : Wanted ops q s (g.getD false) :=
  fun s' ha ρ a w hs => wanted_of (P := P) (n₀ := n₀) hs hg hd (by rw [ha.gd j b d hg hd]; exact h)
theorem Does.on (ht : TabOk P tab) {ops : Array Oper} {i : Nat} {q : Oper} {s : St} {v : AV} {fp : Fp} {o : List (Nat × AV)} (hq : ops[i]? = some q) (hf : fits q.dst s.n = true) (hw : Wanted ops q s true)
    (ho : ∀ s' : St, (∀ x ∈ reads q.op, s'.ev x = s.ev x) → ∀ K' : St → Prop, K' (s'.over o) → strip true (reads q.op) s' K')
    (hv : ∀ s' : St, Agree ops.toList q s s' → Looks fp s.hp s'.hp → ∀ K E : AV → List Ent → Prop, K v (fp.go s'.hp) → aop (std P n₀) tab q.op (s'.over o) K E) : Does P ops i q s v fp := by
  intro s' ha hp rd ρ a w Q next hs hn
  have hf' : fits q.dst s'.n = true := by rw [ha.n]; exact hf
  unfold wpOpIn
  simp only [hq]
  rw [if_pos (hw s' ha ρ a w hs)]
  obtain ⟨s1, h1, h2, h3, h4⟩ := strip_sound (w := w) (ρ := ρ) (a := a) (ho s' (fun x hx => ha.ev x (reads_sub hx)) (fun x => x = s'.over o) rfl)
  subst h1
  refine aop_sound (K := fun v' h' => v' = v ∧ h' = fp.go s'.hp) (E := fun _ _ => False) ht (h4 rfl hs) (hv s' ha hp _ _ ⟨rfl, rfl⟩) ⟨fun v' u ρ' σ' w' hk hv hst hrl => ?_⟩ ⟨fun x v ρ' σ' w' hx _ _ _ => hx.elim⟩
  obtain ⟨rfl, rfl⟩ := hk
  exact hn ρ' _ w' (put_rel hs hf' hv hst hrl) hst
theorem Does.off {ops : Array Oper} {i : Nat} {q : Oper} {s : St} {v : AV} (hq : ops[i]? = some q) (hf : fits q.dst s.n = true) (hw : Wanted ops q s false) (hv : ∀ {w : World} {S : Nat → Nat → Prop} {ρ : Ro} {n : Nat}, Val w S ρ n v undef) : Does P ops i q s v .no := by
  intro s' ha hp rd ρ a w Q next hs hn
  have hf' : fits q.dst s'.n = true := by rw [ha.n]; exact hf
  unfold wpOpIn
  simp only [hq]
  rw [if_neg (by rw [hw s' ha ρ a w hs]; simp)]
  exact ⟨fun _ _ => trivial, hn ρ _ w (put_rel hs hf' hv (Stp.refl _ _ _) hs.rel) (Stp.refl _ _ _)⟩
theorem Does.guarded (ht : TabOk P tab) {ops : Array Oper} {i : Nat} {g : Bool} {q : Oper} {s : St} {v : AV} {fp : Fp} {o : List (Nat × AV)} (hq : ops[i]? = some q) (hf : fits q.dst s.n = true) (hw : Wanted ops q s g) (hfp : ∀ h, fp.go h = h)
    (ho : ∀ s' : St, (∀ x ∈ reads q.op, s'.ev x = s.ev x) → ∀ K' : St → Prop, K' (s'.over o) → strip g (reads q.op) s' K')
    (hv : ∀ s' : St, Agree ops.toList q s s' → Looks fp s.hp s'.hp → g = true → ∀ K E : AV → List Ent → Prop, K v s'.hp → aop (std P n₀) tab q.op (s'.over o) K E) : Does P ops i q s (.cond g v) fp := by
  intro s' ha hp rd ρ a w Q next hs hn
  have hf' : fits q.dst s'.n = true := by rw [ha.n]; exact hf
  rw [hfp] at hn
  unfold wpOpIn
  simp only [hq]
  cases g with
  | true =>
    rw [if_pos (hw s' ha ρ a w hs)]
    obtain ⟨s1, h1, h2, h3, h4⟩ := strip_sound (w := w) (ρ := ρ) (a := a) (ho s' (fun x hx => ha.ev x (reads_sub hx)) (fun x => x = s'.over o) rfl)
    subst h1
    refine aop_sound (K := fun v' h' => v' = v ∧ h' = s'.hp) (E := fun _ _ => False) ht (h4 rfl hs) (hv s' ha hp rfl _ _ ⟨rfl, rfl⟩) ⟨fun v' u ρ' σ' w' hk hv hst hrl => ?_⟩ ⟨fun x v ρ' σ' w' hx _ _ _ => hx.elim⟩
    obtain ⟨rfl, rfl⟩ := hk
    exact hn ρ' _ w' (put_rel hs hf' (cond_val hv rfl) hst hrl) hst
  | false =>
    rw [if_neg (by rw [hw s' ha ρ a w hs]; simp)]
    exact ⟨fun _ _ => trivial, hn ρ _ w (put_rel hs hf' undef_val (Stp.refl _ _ _) hs.rel) (Stp.refl _ _ _)⟩
def DoesC (P : Program) (ops : Array Oper) (i : Nat) (q : Oper) (s : St) (Φ : AV → List Ent → Prop) : Prop :=
  ∀ s' : St, Agree ops.toList q s s' → s'.hp = s.hp → ∀ (rd : Option Nat) (ρ : Ro) (a : Act) (w : World) (Q : Exit → Act → World → Prop) (next : Act → World → Prop), RelS ρ s' a w →
    (∀ v h' ρ' a' w', Φ v h' → RelS ρ' (s'.put q.dst v h') a' w' → Stp ρ s'.hp w ρ' h' w' → next a' w') → wpOpIn (fen rd) 0 P ops Q i next a w
theorem DoesC.on (ht : TabOk P tab) {ops : Array Oper} {i : Nat} {q : Oper} {s : St} {Φ : AV → List Ent → Prop} {o : List (Nat × AV)} (hq : ops[i]? = some q) (hf : fits q.dst s.n = true) (hw : Wanted ops q s true)
    (ho : ∀ s' : St, (∀ x ∈ reads q.op, s'.ev x = s.ev x) → ∀ K' : St → Prop, K' (s'.over o) → strip true (reads q.op) s' K')
    (hv : ∀ s' : St, Agree ops.toList q s s' → s'.hp = s.hp → aop (std P n₀) tab q.op (s'.over o) Φ (fun _ _ => False)) : DoesC P ops i q s Φ := by
  intro s' ha hp rd ρ a w Q next hs hn
  have hf' : fits q.dst s'.n = true := by rw [ha.n]; exact hf
  unfold wpOpIn
  simp only [hq]
  rw [if_pos (hw s' ha ρ a w hs)]
  obtain ⟨s1, h1, h2, h3, h4⟩ := strip_sound (w := w) (ρ := ρ) (a := a) (ho s' (fun x hx => ha.ev x (reads_sub hx)) (fun x => x = s'.over o) rfl)
  subst h1
  exact aop_sound (E := fun _ _ => False) ht (h4 rfl hs) (hv s' ha hp) ⟨fun v' u ρ' σ' w' hk hv hst hrl => hn v' σ' ρ' _ w' hk (put_rel hs hf' hv hst hrl) hst⟩ ⟨fun x v ρ' σ' w' hx _ _ _ => hx.elim⟩
structure Fixed (all : List Oper) (n i : Nat) (q : Oper) : Prop where
  is : all[i]? = some q
  guard : ∀ j b d, q.guard = some (j, b) → (nth all j).bind (·.dst) = some d → Go.Pt.waits all i q.after.toList [.tmp d] = true
  fits : fits q.dst n = true
  lt : edgesLt q.after.toList all.length = true
  waits : waits all i q.after.toList q.op.operands.toList = true
  sole : sole all q.dst i = true
abbrev Left := Bool × Nat × Oper
def Run (P : Program) (ops : Array Oper) (n : Nat) (K : St → Prop) : List (Nat × Fp) → List Left → St → Prop
  | _, [], s => ∃ f, K f ∧ Like s f
  | acc, (false, i, q) :: r, s => Fixed ops.toList n i q ∧ ∃ v fp, Does P ops i q s v fp ∧ Looks fp s.hp s.hp ∧ okAcc acc q.after.toList fp = true ∧ Run P ops n K ((i, fp) :: acc) r (s.put q.dst v (fp.go s.hp))
  | acc, (true, i, q) :: r, s => Fixed ops.toList n i q ∧ quietAcc acc q.after.toList = true ∧ DoesC P ops i q s fun v h' => framesP acc q.after.toList s.hp h' ∧ Run P ops n K acc r (s.put q.dst v h')
theorem okAcc_iff {es : List Edge} {fp : Fp} : ∀ {acc : List (Nat × Fp)}, okAcc acc es fp = true ↔ ∀ x ∈ acc, clash x.2 fp = true → hasEdge es x.1 = true
  | [] => by simp [okAcc]
  | (j, g) :: r => by
    simp only [okAcc, List.mem_cons, forall_eq_or_imp]
    split
    · rename_i e
      split
      · rename_i e'; rw [okAcc_iff]; simp [e, e']
      · rename_i e'; simp [e, e']
    · rename_i e; rw [okAcc_iff]; simp [e]
theorem hasEdge_iff {es : List Edge} {j : Nat} : hasEdge es j = true ↔ ∃ e ∈ es, bindAny e = true ∧ e.on = j := by
  induction es with
  | nil => simp [hasEdge]
  | cons e r ih =>
    simp only [hasEdge, List.mem_cons, exists_eq_or_imp]
    split
    · rename_i h
      split
      · rename_i h'; simp [h, beN_t h']
      · rename_i h'
        rw [ih]
        have : e.on ≠ j := fun he => by rw [he] at h'; simp at h'
        simp [this]
    · rename_i h; rw [ih]; simp [h]
theorem edgesLt_iff {es : List Edge} {i : Nat} : edgesLt es i = true ↔ ∀ e ∈ es, bindAny e = true → e.on < i := by
  induction es with
  | nil => simp [edgesLt]
  | cons e r ih =>
    simp only [edgesLt, List.mem_cons, forall_eq_or_imp]
    split
    · rename_i h
      split
      · rename_i h'; rw [ih]; simp [h, ltN_eq] at *; simp [h']
      · rename_i h'
        have : ¬ e.on < i := fun hl => by
          have : ltN e.on i = true := ltN_eq ▸ hl
          rw [this] at h'; simp at h'
        simp [h, this]
    · rename_i h; rw [ih]; simp [h]
theorem waits_iff {all : List Oper} {i : Nat} {es : List Edge} {l : List Operand} : waits all i es l = true ↔ ∀ t, Operand.tmp t ∈ l → ∀ j, whoW all t 0 = some j → hasEdge es j = true ∨ hasEdge (aft all j) i = true := by
  induction l with
  | nil => simp [waits]
  | cons x r ih =>
    cases x with
    | tmp t =>
      simp only [waits]
      split
      · rename_i h
        rw [ih]
        constructor
        · intro hh t' ht' j hj
          rcases List.mem_cons.1 ht' with e | e
          · simp at e; subst e; rw [h] at hj; simp at hj
          · exact hh t' e j hj
        · intro hh t' ht' j hj; exact hh t' (List.mem_cons_of_mem _ ht') j hj
      · rename_i j h
        split
        · rename_i h'
          rw [ih]
          constructor
          · intro hh t' ht' j' hj
            rcases List.mem_cons.1 ht' with e | e
            · simp at e; subst e; rw [h] at hj; simp at hj; subst hj; exact .inl h'
            · exact hh t' e j' hj
          · intro hh t' ht' j hj; exact hh t' (List.mem_cons_of_mem _ ht') j hj
        · rename_i h'
          split
          · rename_i h''
            rw [ih]
            constructor
            · intro hh t' ht' j' hj
              rcases List.mem_cons.1 ht' with e | e
              · simp at e; subst e; rw [h] at hj; simp at hj; subst hj; exact .inr h''
              · exact hh t' e j' hj
            · intro hh t' ht' j hj; exact hh t' (List.mem_cons_of_mem _ ht') j hj
          · rename_i h''
            simp only [Bool.false_eq_true, false_iff]
            intro hh
            rcases hh t (by simp) j h with e | e
            · rw [e] at h'; simp at h'
            · rw [e] at h''; simp at h''
    | _ => simp [waits, ih]
theorem sole_who {all : List Oper} {d i : Nat} (h : sole all (some d) i = true) : whoW all d 0 = some i := by
  simp only [sole] at h
  split at h
  · rename_i j e; rw [e, beN_t h]
  · simp at h
theorem bind_any {md : Region.Mode} (hm : md = .any) (e : Edge) : Region.binds md e = bindAny e := by
  subst hm
  unfold Region.binds bindAny
  split <;> simp_all
theorem waitsAny_iff {es : List Edge} : ∀ {l : List Nat}, waitsAny es l = true ↔ ∃ j ∈ l, hasEdge es j = true
  | [] => by simp [waitsAny]
  | j :: l => by
    simp only [waitsAny, List.mem_cons, exists_eq_or_imp]
    split
    · rename_i h; simp [h]
    · rename_i h; rw [waitsAny_iff]; simp [h]
theorem alone_waits : ∀ {r : List (Nat × Oper)} {l : List Nat}, alone r l = true → ∀ x ∈ r, ∃ j, hasEdge x.2.after.toList j = true ∧ (j ∈ l ∨ ∃ y ∈ r, y.1 = j)
  | [], _, _, x, hx => by simp at hx
  | (i, q) :: r, l, h, x, hx => by
    simp only [alone] at h
    split at h
    case h_2 => simp at h
    rename_i hw
    rcases List.mem_cons.1 hx with rfl | hx
    · obtain ⟨j, hj, he⟩ := waitsAny_iff.1 hw
      exact ⟨j, he, .inl hj⟩
    · obtain ⟨j, he, hj⟩ := alone_waits h x hx
      refine ⟨j, he, ?_⟩
      rcases hj with hj | ⟨y, hy, e⟩
      · rcases List.mem_cons.1 hj with e | hj
        · exact .inr ⟨(i, q), List.mem_cons_self, e.symm⟩
        · exact .inl hj
      · exact .inr ⟨y, List.mem_cons_of_mem _ hy, e⟩
theorem quiet_iff {es : List Edge} : ∀ {acc : List (Nat × Fp)}, quietAcc acc es = true ↔ ∀ x ∈ acc, hasEdge es x.1 = false → (x.2 = .no ∨ ∃ id, x.2 = .rd id)
  | [] => by simp [quietAcc]
  | (j, g) :: r => by
    simp only [quietAcc, List.mem_cons, forall_eq_or_imp]
    split
    · rename_i e; rw [quiet_iff]; simp [e]
    · rename_i e
      cases g with
      | no => simp only [quiet_iff, e, forall_const]; exact ⟨fun h => ⟨.inl trivial, h⟩, fun h => h.2⟩
      | rd id => simp only [quiet_iff, e, forall_const]; exact ⟨fun h => ⟨.inr ⟨id, rfl⟩, h⟩, fun h => h.2⟩
      | wr i e' => simp [e]
      | new i e' => simp [e]
      | mv i k e' r => simp [e]
      | nrd i e' r => simp [e]
theorem framesP_iff {es : List Edge} {h h' : List Ent} : ∀ {acc : List (Nat × Fp)}, framesP acc es h h' ↔ ∀ x ∈ acc, hasEdge es x.1 = false → (x.2 = .no ∨ ∃ id, x.2 = .rd id ∧ nth h' id = nth h id)
  | [] => by simp [framesP]
  | (j, g) :: r => by
    simp only [framesP, List.mem_cons, forall_eq_or_imp]
    split
    · rename_i e; rw [framesP_iff]; simp [e]
    · rename_i e
      cases g with
      | no => simp only [framesP_iff, e, forall_const]; exact ⟨fun h => ⟨.inl trivial, h⟩, fun h => h.2⟩
      | rd id =>
        simp only [framesP_iff, e, forall_const]
        constructor
        · rintro ⟨h1, h2⟩; exact ⟨.inr ⟨id, rfl, h1⟩, h2⟩
        · rintro ⟨h1, h2⟩
          rcases h1 with h1 | ⟨id', h1, h3⟩
          · cases h1
          · cases h1; exact ⟨h3, h2⟩
      | wr i e' =>
        simp only [e, forall_const, false_iff]
        rintro ⟨h1, _⟩
        rcases h1 with h1 | ⟨_, h1, _⟩ <;> cases h1
      | new i e' =>
        simp only [e, forall_const, false_iff]
        rintro ⟨h1, _⟩
        rcases h1 with h1 | ⟨_, h1, _⟩ <;> cases h1
      | mv i k e' r =>
        simp only [e, forall_const, false_iff]
        rintro ⟨h1, _⟩
        rcases h1 with h1 | ⟨_, h1, _⟩ <;> cases h1
      | nrd i e' r =>
        simp only [e, forall_const, false_iff]
        rintro ⟨h1, _⟩
        rcases h1 with h1 | ⟨_, h1, _⟩ <;> cases h1
theorem clash_sym {f g : Fp} : clash f g = clash g f := by
  have sym : ∀ i j, beN i j = beN j i := fun i j => by
    cases h : beN j i with
    | true => rw [beN_t h]; simp
    | false =>
      cases h' : beN i j with
      | false => rfl
      | true => rw [beN_t h'] at h; simp at h
  cases f <;> cases g <;> first | rfl | exact sym _ _
theorem Like.agree {all : List Oper} {q : Oper} {s t : St} (h : Like s t) : Agree all q t s := ⟨h.n, fun x _ => h.evs x, fun _ _ d _ _ => h.ev d⟩
theorem Run.like {ops : Array Oper} {n : Nat} {K : St → Prop} : ∀ {r : List Left} {acc acc' : List (Nat × Fp)} {s t : St}, Like s t → (∀ x ∈ acc', x ∈ acc) → Run P ops n K acc r s → Run P ops n K acc' r t
  | [], _, _, _, _, hl, _, ⟨f, hf, h⟩ => ⟨f, hf, fun i => (hl.ev i).symm.trans (h.ev i), hl.hp.symm.trans h.hp, hl.n.symm.trans h.n⟩
  | (false, i, q) :: r, acc, acc', s, t, hl, ha, ⟨h1, v, fp, h2, h5, h3, h4⟩ => by
    have hl' : Like t s := ⟨fun i => (hl.ev i).symm, hl.hp.symm, hl.n.symm⟩
    refine ⟨h1, v, fp, h2.frame hl'.agree (by rw [← hl.hp]; exact h5), by rw [← hl.hp]; exact h5, okAcc_iff.2 fun x hx => okAcc_iff.1 h3 x (ha x hx), ?_⟩
    refine Run.like (by rw [← hl.hp]; exact hl.put _ _ _) (fun x hx => ?_) h4
    rcases List.mem_cons.1 hx with e | e
    · exact e ▸ List.mem_cons_self
    · exact List.mem_cons_of_mem _ (ha x e)
  | (true, i, q) :: r, acc, acc', s, t, hl, ha, ⟨h1, h2, h3⟩ => by
    have hl' : Like t s := ⟨fun i => (hl.ev i).symm, hl.hp.symm, hl.n.symm⟩
    refine ⟨h1, quiet_iff.2 fun x hx => quiet_iff.1 h2 x (ha x hx), fun s' ha' hp rd ρ a w Q next hs hn => ?_⟩
    refine h3 s' ⟨ha'.n.trans hl'.n, fun x hx => (ha'.ev x hx).trans (hl'.evs x), fun j b d e1 e2 => (ha'.gd j b d e1 e2).trans (hl'.ev d)⟩ (hp.trans hl'.hp) rd ρ a w Q next hs fun v h' ρ' a' w' hΦ => hn v h' ρ' a' w' ⟨?_, ?_⟩
    · rw [framesP_iff]
      intro x hx he
      have := framesP_iff.1 hΦ.1 x (ha x hx) he
      rw [← hl.hp]; exact this
    · exact Run.like (hl.put _ _ _) ha hΦ.2
theorem nth_set_ne {h : List Ent} {i j : Nat} {e : Ent} (hne : i ≠ j) : nth (setN h i e) j = nth h j := by
  rw [nth_eq, nth_eq, setN_eq, List.getElem?_set_ne hne]
theorem nth_lt {h : List Ent} {i : Nat} {e : Ent} (hh : nth h i = some e) : i < h.length := by rw [nth_eq] at hh; exact lt_of_get hh
theorem nth_snoc {h : List Ent} {e : Ent} {j : Nat} (hj : j < h.length) : nth (snoc h e) j = nth h j := by
  simp only [nth_eq, snoc_eq]
  rw [List.getElem?_append_left hj]
theorem beq_ne {i j : Nat} (h : beN i j = false) : i ≠ j := fun e => by subst e; simp at h
theorem Looks.symm {fp : Fp} {h h' : List Ent} (a : Looks fp h h') : Looks fp h' h := by
  cases fp with
  | no => trivial
  | rd i => obtain ⟨e, x, hx⟩ := a; exact ⟨e.symm, x, e.trans hx⟩
  | wr i e => obtain ⟨e, x, hx⟩ := a; exact ⟨e.symm, x, e.trans hx⟩
  | new i e => exact ⟨a.1.symm, a.1.trans a.2⟩
  | nrd i e r => obtain ⟨e2, e3, e4, y, hy⟩ := a; exact ⟨e2.symm, e2.trans e3, e4.symm, y, e4.trans hy⟩
  | mv i k e r => obtain ⟨e1, ⟨x, hx⟩, e2, e3, e4, y, hy⟩ := a; exact ⟨e1.symm, ⟨x, e1.trans hx⟩, e2.symm, e2.trans e3, e4.symm, y, e4.trans hy⟩
theorem mv_ne {i j k : Nat} (h : (beN i j || beN k j) = false) : i ≠ j ∧ k ≠ j := by
  rw [Bool.or_eq_false_iff] at h
  exact ⟨beq_ne h.1, beq_ne h.2⟩
theorem mv_ne3 {i j k r : Nat} (h : ((beN i j || beN k j) || beN r j) = false) : i ≠ j ∧ k ≠ j ∧ r ≠ j := by
  rw [Bool.or_eq_false_iff] at h
  exact ⟨(mv_ne h.1).1, (mv_ne h.1).2, beq_ne h.2⟩
theorem lenN_set {h : List Ent} {i : Nat} {e : Ent} : lenN (setN h i e) = lenN h := by simp [lenN_eq, setN_eq]
theorem nth_mv {h : List Ent} {i j : Nat} {d e : Ent} (hj : j < h.length) (hne : i ≠ j) : nth (snoc (setN h i d) e) j = nth h j := by
  rw [nth_snoc (by rw [setN_eq]; simpa using hj), nth_set_ne hne]
theorem mv_lt {h : List Ent} {i j k : Nat} {d e x : Ent} (hk : lenN h = k) (hne : k ≠ j) (hx : nth (snoc (setN h i d) e) j = some x) : j < h.length := by
  have := nth_lt hx
  rw [snoc_eq, setN_eq] at this
  simp at this
  rw [lenN_eq] at hk
  omega
theorem look_back {f g : Fp} {h : List Ent} (hc : clash f g = false) (hf : Looks f h h) (hg : Looks g (f.go h) (f.go h)) : Looks g (f.go h) h := by
  cases f with
  | no => exact hg
  | rd _ => exact hg
  | wr i e =>
    cases g with
    | no => trivial
    | rd j => exact ⟨(nth_set_ne (beq_ne hc)).symm, hg.2⟩
    | wr j e' => exact ⟨(nth_set_ne (beq_ne hc)).symm, hg.2⟩
    | new j e' => exact ⟨lenN_set.symm, hg.2⟩
    | nrd j e' r => exact ⟨lenN_set.symm, hg.2.1, (nth_set_ne (mv_ne hc).2.symm).symm, hg.2.2.2⟩
    | mv j k e' r => exact ⟨(nth_set_ne (mv_ne3 hc).1.symm).symm, hg.2.1, lenN_set.symm, hg.2.2.2.1, (nth_set_ne (mv_ne3 hc).2.2.symm).symm, hg.2.2.2.2.2⟩
  | new i e =>
    have hi : h.length = i := by have := hf.2; rwa [lenN_eq] at this
    have lt : ∀ {j : Nat} {x : Ent}, beN i j = false → nth (snoc h e) j = some x → j < h.length := by
      intro j x hb hx
      have := nth_lt hx
      have hne := beq_ne hb
      rw [snoc_eq] at this
      simp at this
      omega
    cases g with
    | no => trivial
    | rd j => obtain ⟨_, x, hx⟩ := hg; exact ⟨(nth_snoc (lt hc hx)).symm, x, hx⟩
    | wr j e' => obtain ⟨_, x, hx⟩ := hg; exact ⟨(nth_snoc (lt hc hx)).symm, x, hx⟩
    | new j e' => simp [clash] at hc
    | mv j k e' r => simp [clash] at hc
    | nrd j e' r => simp [clash] at hc
  | nrd i e r =>
    have hi : h.length = i := by have := hf.2.1; rwa [lenN_eq] at this
    have lt : ∀ {j : Nat} {x : Ent}, beN i j = false → nth (snoc h e) j = some x → j < h.length := by
      intro j x hb hx
      have := nth_lt hx
      have hne := beq_ne hb
      rw [snoc_eq] at this
      simp at this
      omega
    cases g with
    | no => trivial
    | rd j => obtain ⟨_, x, hx⟩ := hg; exact ⟨(nth_snoc (lt hc hx)).symm, x, hx⟩
    | wr j e' => obtain ⟨_, x, hx⟩ := hg; exact ⟨(nth_snoc (lt (Bool.or_eq_false_iff.1 hc).1 hx)).symm, x, hx⟩
    | new j e' => simp [clash] at hc
    | mv j k e' r => simp [clash] at hc
    | nrd j e' r => simp [clash] at hc
  | mv i k e r =>
    obtain ⟨_, ⟨x0, hx0⟩, _, hk, _⟩ := hf
    cases g with
    | no => trivial
    | rd j => obtain ⟨_, x, hx⟩ := hg; exact ⟨(nth_mv (mv_lt hk (mv_ne hc).2 hx) (mv_ne hc).1).symm, x, hx⟩
    | wr j e' => obtain ⟨_, x, hx⟩ := hg; exact ⟨(nth_mv (mv_lt hk (mv_ne3 hc).2.1 hx) (mv_ne3 hc).1).symm, x, hx⟩
    | new j e' => simp [clash] at hc
    | mv j k' e' r' => simp [clash] at hc
    | nrd j e' r' => simp [clash] at hc
theorem look_on {f g : Fp} {h : List Ent} (hc : clash g f = false) (hf : Looks f h h) (hg : Looks g h h) : Looks g h (f.go h) := by
  cases f with
  | no => exact hg
  | rd _ => exact hg
  | wr i e =>
    cases g with
    | no => trivial
    | rd j => exact ⟨nth_set_ne (beq_ne hc).symm, hg.2⟩
    | wr j e' => exact ⟨nth_set_ne (beq_ne hc).symm, hg.2⟩
    | new j e' => exact ⟨lenN_set, hg.2⟩
    | nrd j e' r => exact ⟨lenN_set, hg.2.1, nth_set_ne (mv_ne hc).2.symm, hg.2.2.2⟩
    | mv j k e' r => exact ⟨nth_set_ne (mv_ne3 hc).1.symm, hg.2.1, lenN_set, hg.2.2.2.1, nth_set_ne (mv_ne3 hc).2.2.symm, hg.2.2.2.2.2⟩
  | new i e =>
    cases g with
    | no => trivial
    | rd j => obtain ⟨_, x, hx⟩ := hg; exact ⟨nth_snoc (nth_lt hx), x, hx⟩
    | wr j e' => obtain ⟨_, x, hx⟩ := hg; exact ⟨nth_snoc (nth_lt hx), x, hx⟩
    | new j e' => simp [clash] at hc
    | mv j k e' r => simp [clash] at hc
    | nrd j e' r => simp [clash] at hc
  | nrd i e r =>
    cases g with
    | no => trivial
    | rd j => obtain ⟨_, x, hx⟩ := hg; exact ⟨nth_snoc (nth_lt hx), x, hx⟩
    | wr j e' => obtain ⟨_, x, hx⟩ := hg; exact ⟨nth_snoc (nth_lt hx), x, hx⟩
    | new j e' => simp [clash] at hc
    | mv j k e' r => simp [clash] at hc
    | nrd j e' r => simp [clash] at hc
  | mv i k e r =>
    cases g with
    | no => trivial
    | rd j => obtain ⟨_, x, hx⟩ := hg; exact ⟨nth_mv (nth_lt hx) (mv_ne hc).1, x, hx⟩
    | wr j e' => obtain ⟨_, x, hx⟩ := hg; exact ⟨nth_mv (nth_lt hx) (mv_ne3 hc).1, x, hx⟩
    | new j e' => simp [clash] at hc
    | mv j k' e' r' => simp [clash] at hc
    | nrd j e' r' => simp [clash] at hc
theorem wr_mv {h : List Ent} {i j : Nat} {c d : Ent} (hi : i < h.length) (hne : j ≠ i) : setN (snoc (setN h j .dead) d) i c = snoc (setN (setN h i c) j .dead) d := by
  simp only [setN_eq, snoc_eq]
  rw [List.set_append_left _ _ (by simpa using hi), List.set_comm _ _ hne]
theorem go_comm {f g : Fp} {h : List Ent} (hc : clash f g = false) (hf : Looks f h h) (hg : Looks g h h) : g.go (f.go h) = f.go (g.go h) := by
  cases f with
  | no => rfl
  | rd _ => rfl
  | wr i c =>
    obtain ⟨_, x, hx⟩ := hf
    cases g with
    | no => rfl
    | rd _ => rfl
    | wr j d =>
      simp only [Fp.go, setN_eq]
      exact List.set_comm _ _ (beq_ne hc)
    | new j d =>
      simp only [Fp.go, setN_eq, snoc_eq]
      rw [List.set_append_left _ _ (nth_lt hx)]
    | nrd j d r =>
      simp only [Fp.go, setN_eq, snoc_eq]
      rw [List.set_append_left _ _ (nth_lt hx)]
    | mv j k d r => exact (wr_mv (nth_lt hx) (mv_ne3 hc).1).symm
  | new i c =>
    cases g with
    | no => rfl
    | rd _ => rfl
    | wr j d =>
      obtain ⟨_, x, hx⟩ := hg
      simp only [Fp.go, setN_eq, snoc_eq]
      rw [List.set_append_left _ _ (nth_lt hx)]
    | new j d => simp [clash] at hc
    | mv j k d r' => simp [clash] at hc
    | nrd j d r' => simp [clash] at hc
  | nrd i c r =>
    cases g with
    | no => rfl
    | rd _ => rfl
    | wr j d =>
      obtain ⟨_, x, hx⟩ := hg
      simp only [Fp.go, setN_eq, snoc_eq]
      rw [List.set_append_left _ _ (nth_lt hx)]
    | new j d => simp [clash] at hc
    | mv j k d r' => simp [clash] at hc
    | nrd j d r' => simp [clash] at hc
  | mv i k c r =>
    cases g with
    | no => rfl
    | rd _ => rfl
    | wr j d =>
      obtain ⟨_, x, hx⟩ := hg
      exact wr_mv (nth_lt hx) (mv_ne3 hc).1
    | new j d => simp [clash] at hc
    | mv j k d r' => simp [clash] at hc
    | nrd j d r' => simp [clash] at hc
theorem not_mine {all : List Oper} {n i j : Nat} {qi qj : Oper} {s : St} {v : AV} {h : List Ent} (fi : Fixed all n i qi) (fj : Fixed all n j qj) (hne : hasEdge qi.after.toList j = false) (hnj : hasEdge qj.after.toList i = false) : Agree all qi s (s.put qj.dst v h) := by
  have ha : aft all j = qj.after.toList := by simp only [aft, nth_eq, fj.is]
  refine ⟨put_n, fun x hx => ?_, fun k b d hg hd => ?_⟩
  · cases x with
    | tmp t =>
      simp only [St.ev, look_put]
      rw [if_neg]
      intro hd
      rcases waits_iff.1 fi.waits t (by simpa using hx) j (sole_who (hd ▸ fj.sole)) with e | e
      · rw [e] at hne; simp at hne
      · rw [ha, hnj] at e; simp at e
    | _ => rfl
  · rw [look_put, if_neg]
    intro hd'
    rcases waits_iff.1 (fi.guard k b d hg hd) d (by simp) j (sole_who (hd' ▸ fj.sole)) with e | e
    · rw [e] at hne; simp at hne
    · rw [ha, hnj] at e; simp at e
theorem Agree.symm {all : List Oper} {q : Oper} {s t : St} (h : Agree all q s t) : Agree all q t s := ⟨h.n.symm, fun x hx => (h.ev x hx).symm, fun j b d e1 e2 => (h.gd j b d e1 e2).symm⟩
theorem put_put {all : List Oper} {n i j : Nat} {qi qj : Oper} {s : St} {v u : AV} {h h' k k' : List Ent} (fi : Fixed all n i qi) (fj : Fixed all n j qj) (hij : i ≠ j) (hh : h' = k') : Like ((s.put qj.dst u h).put qi.dst v h') ((s.put qi.dst v k).put qj.dst u k') := by
  refine ⟨fun m => ?_, ?_, ?_⟩
  · simp only [look_put]
    by_cases h1 : qi.dst = some m
    · by_cases h2 : qj.dst = some m
      · have e1 := sole_who (h1 ▸ fi.sole); have e2 := sole_who (h2 ▸ fj.sole)
        rw [e1] at e2; simp at e2; omega
      · simp [h1, h2]
    · simp [h1]
  · simp only [put_hp]; exact hh
  · simp only [put_n]
theorem Run.swap {ops : Array Oper} {n : Nat} {K : St → Prop} {acc : List (Nat × Fp)} {b : Bool} {i j : Nat} {qi qj : Oper} {r : List Left} {s : St} (hij : i ≠ j)
    (hne : hasEdge qi.after.toList j = false) (hnj : hasEdge qj.after.toList i = false) (h : Run P ops n K acc ((false, j, qj) :: (b, i, qi) :: r) s) : Run P ops n K acc ((b, i, qi) :: (false, j, qj) :: r) s := by
  cases b with
  | false =>
    obtain ⟨fj, vj, gj, dj, lj, oj, fi, vi, gi, di, li, oi, hr⟩ := h
    have hc : clash gj gi = false := by
      cases e : clash gj gi with
      | false => rfl
      | true => rw [okAcc_iff.1 oi (j, gj) List.mem_cons_self e] at hne; simp at hne
    have hc' : clash gi gj = false := by rw [clash_sym]; exact hc
    rw [put_hp] at li hr
    have lb := look_back hc lj li
    have ls : Looks gi s.hp s.hp := lb.symm.trans lb
    have di' : Does P ops i qi s vi gi := di.frame (not_mine fi fj hne hnj).symm (by rw [put_hp]; exact lb)
    have dj' : Does P ops j qj (s.put qi.dst vi (gi.go s.hp)) vj gj := dj.frame (not_mine fj fi hnj hne) (by rw [put_hp]; exact look_on hc ls lj)
    refine ⟨fi, vi, gi, di', ls, okAcc_iff.2 fun x hx => okAcc_iff.1 oi x (List.mem_cons_of_mem _ hx), fj, vj, gj, dj', ?_, okAcc_iff.2 fun x hx hx' => ?_, ?_⟩
    · rw [put_hp]
      have := look_on hc ls lj
      exact this.symm.trans this
    · rcases List.mem_cons.1 hx with e | e
      · subst e; rw [hc'] at hx'; simp at hx'
      · exact okAcc_iff.1 oj x e hx'
    · rw [put_hp]
      refine Run.like (put_put fi fj hij (go_comm hc lj ls)) (fun x hx => ?_) hr
      simp only [List.mem_cons] at hx ⊢; grind
  | true =>
    obtain ⟨fj, vj, gj, dj, lj, oj, fi, qi', di⟩ := h
    have hgo : gj = .no ∨ ∃ id, gj = .rd id := quiet_iff.1 qi' (j, gj) List.mem_cons_self hne
    have hh : ∀ h, gj.go h = h := by intro h; rcases hgo with e | ⟨_, e⟩ <;> subst e <;> rfl
    rw [hh] at di
    refine ⟨fi, quiet_iff.2 fun x hx => quiet_iff.1 qi' x (List.mem_cons_of_mem _ hx), fun s' ha hp rd ρ a w Q next hs hn => ?_⟩
    have ag := not_mine (s := s) (v := vj) (h := s.hp) fi fj hne hnj
    refine di s' ⟨ha.n.trans ag.symm.n, fun x hx => (ha.ev x hx).trans (ag.symm.ev x hx), fun k b d e1 e2 => (ha.gd k b d e1 e2).trans (ag.symm.gd k b d e1 e2)⟩ (hp.trans put_hp.symm) rd ρ a w Q next hs fun v h' ρ' a' w' hΦ => hn v h' ρ' a' w' ⟨?_, ?_⟩
    · obtain ⟨hf, _⟩ := hΦ
      rw [put_hp] at hf
      exact framesP_iff.2 fun x hx => framesP_iff.1 hf x (List.mem_cons_of_mem _ hx)
    · obtain ⟨hf, hr⟩ := hΦ
      rw [put_hp] at hf
      have hl : Looks gj s.hp h' := by
        rcases framesP_iff.1 hf (j, gj) List.mem_cons_self hne with e | ⟨id, e, e'⟩
        · have e : gj = .no := e
          subst e; trivial
        · have e : gj = .rd id := e
          subst e; exact ⟨e', lj.2⟩
      refine ⟨fj, vj, gj, dj.frame (not_mine fj fi hnj hne) (by rw [put_hp]; exact hl), by rw [put_hp]; exact hl.symm.trans hl, oj, ?_⟩
      rw [put_hp, hh]
      exact Run.like (put_put fi fj hij rfl) (fun x hx => hx) hr
theorem Run.fixed {ops : Array Oper} {n : Nat} {K : St → Prop} : ∀ {r1 : List Left} {b : Bool} {i : Nat} {q : Oper} {r2 : List Left} {acc : List (Nat × Fp)} {s : St}, (∀ x ∈ r1, x.1 = false) → Run P ops n K acc (r1 ++ (b, i, q) :: r2) s → Fixed ops.toList n i q
  | [], b, _, _, _, _, _, _, h => by cases b <;> exact h.1
  | (true, j, qj) :: r1, _, _, _, _, _, _, hr, _ => by have := hr _ List.mem_cons_self; simp at this
  | (false, j, qj) :: r1, _, _, _, _, _, _, hr, h => by
    obtain ⟨_, _, _, _, _, _, h⟩ := h
    exact Run.fixed (fun x hx => hr x (List.mem_cons_of_mem _ hx)) h
theorem Run.first {ops : Array Oper} {n : Nat} {K : St → Prop} {b : Bool} {i : Nat} {qi : Oper} {r2 : List Left} : ∀ {r1 : List Left} {acc : List (Nat × Fp)} {s : St},
    (∀ x ∈ r1, x.1 = false ∧ i ≠ x.2.1 ∧ hasEdge qi.after.toList x.2.1 = false ∧ hasEdge x.2.2.after.toList i = false) → Run P ops n K acc (r1 ++ (b, i, qi) :: r2) s → Run P ops n K acc ((b, i, qi) :: (r1 ++ r2)) s
  | [], _, _, _, h => h
  | (true, j, qj) :: r1, acc, s, hr, h => by have := (hr _ List.mem_cons_self).1; simp at this
  | (false, j, qj) :: r1, acc, s, hr, h => by
    obtain ⟨_, h0, h1, h2⟩ := hr (false, j, qj) List.mem_cons_self
    obtain ⟨fj, vj, gj, dj, lj, oj, h'⟩ := h
    have := Run.first (fun x hx => hr x (List.mem_cons_of_mem _ hx)) h'
    exact Run.swap h0 h1 h2 ⟨fj, vj, gj, dj, lj, oj, this⟩
structure Ordd (ops : Array Oper) (r : List Left) : Prop where
  is : ∀ x ∈ r, ops[x.2.1]? = some x.2.2
  pw : r.Pairwise fun x y => hasEdge x.2.2.after.toList y.2.1 = false ∧ x.2.1 ≠ y.2.1
  self : ∀ x ∈ r, hasEdge x.2.2.after.toList x.2.1 = false
def Alones : List Left → Prop
  | [] => True
  | (b, i, _) :: r => (b = true → alone (r.map (·.2)) [i] = true) ∧ Alones r
theorem Ordd.sub {ops : Array Oper} {l r : List Left} (h : Ordd ops r) (hs : l.Sublist r) : Ordd ops l := ⟨fun x hx => h.is x (hs.subset hx), h.pw.sublist hs, fun x hx => h.self x (hs.subset hx)⟩
theorem Alones.drop : ∀ {r1 : List Left} {x : Left} {r2 : List Left}, (∀ y ∈ r1, y.1 = false) → Alones (r1 ++ x :: r2) → Alones (r1 ++ r2)
  | [], _, _, _, h => h.2
  | y :: r1, x, r2, hf, h => by
    obtain ⟨b, j, q⟩ := y
    refine ⟨fun e => ?_, Alones.drop (fun z hz => hf z (List.mem_cons_of_mem _ hz)) h.2⟩
    have := hf _ List.mem_cons_self
    simp only at this; rw [this] at e; simp at e
theorem Alones.wait {r1 : List Left} {x : Left} {r2 : List Left} (h : Alones (r1 ++ x :: r2)) {y : Left} (hy : y ∈ r1) (hb : y.1 = true) : ∃ z ∈ r1 ++ x :: r2, hasEdge x.2.2.after.toList z.2.1 = true := by
  induction r1 with
  | nil => simp at hy
  | cons u r1 ih =>
    obtain ⟨b, i, q⟩ := u
    rcases List.mem_cons.1 hy with rfl | hy
    · obtain ⟨j, he, hj⟩ := alone_waits (h.1 hb) x.2 (by simp)
      rcases hj with hj | ⟨z, hz, e⟩
      · simp only [List.mem_singleton] at hj
        subst hj
        exact ⟨_, List.mem_cons_self, he⟩
      · obtain ⟨z', hz', e'⟩ := List.mem_map.1 hz
        subst e' e
        exact ⟨z', List.mem_cons_of_mem _ hz', he⟩
    · obtain ⟨z, hz, he⟩ := ih h.2 hy
      exact ⟨z, List.mem_cons_of_mem _ hz, he⟩
theorem run_any {rd : Option Nat} {ops : Array Oper} {n : Nat} {K : St → Prop} {Q : Exit → Act → World → Prop} : ∀ (fuel : Nat) (r : List Left) (acc : List (Nat × Fp)) (listed : Array Bool) {s : St} {a : Act} {w : World} {ρ : Ro},
    r.length = fuel → Ordd ops r → Alones r → (∀ i, listed.getD i true = false ↔ ∃ x ∈ r, x.2.1 = i) → listed.size = ops.size → s.n = n →
    Run P ops n K acc r s → RelS ρ s a w →
    (∀ f ρ' a' w', K f → RelS ρ' f a' w' → Stp ρ s.hp w ρ' f.hp w' → Q .normal a' w') → wpAnyIn (fen rd) 0 P .any ops Q fuel listed a w := by
  intro fuel
  induction fuel with
  | zero =>
    intro r acc listed s a w ρ hl _ _ hli _ _ hr hs hf
    have : r = [] := List.length_eq_zero_iff.1 hl
    subst this
    obtain ⟨f, hk, hlk⟩ := hr
    refine ⟨?_, hf f ρ a w hk (RelS.same hlk.ev hlk.n hlk.hp hs) (hlk.hp ▸ Stp.refl _ _ _)⟩
    rw [List.eq_nil_iff_forall_not_mem]
    intro i hi
    obtain ⟨h0, _⟩ := mem_ready.1 hi
    obtain ⟨q, hq, _⟩ := (hli i).1 h0
    simp at hq
  | succ fuel ih =>
    intro r acc listed s a w ρ hl hord hal hli hsz hsn hr hs hf
    have low : ∀ {i : Nat}, listed.getD i true = false → i < listed.size := by
      intro i h
      rcases Nat.lt_or_ge i listed.size with h' | h'
      · exact h'
      · simp [Array.getElem?_eq_none h'] at h
    have isl : ∀ {i : Nat}, i < ops.size → (¬ ∃ x ∈ r, x.2.1 = i) → listed.getD i false = true := by
      intro i hi hn
      have : listed.getD i true = true := by
        cases e : listed.getD i true with
        | true => rfl
        | false => exact absurd ((hli i).1 e) hn
      have h' : i < listed.size := by omega
      simpa [Array.getD, h'] using this
    constructor
    · intro hready
      exfalso
      cases r with
      | nil => simp at hl
      | cons x r =>
        obtain ⟨b, i, q⟩ := x
        have hfx : Fixed ops.toList n i q := Run.fixed (r1 := []) (fun _ h => by simp at h) hr
        have : i ∈ Region.ready .any ops listed := by
          refine mem_ready.2 ⟨(hli i).2 ⟨_, List.mem_cons_self, rfl⟩, q, by simpa using hfx.is, fun e he hb => ?_⟩
          rw [bind_any rfl] at hb
          have hlt := edgesLt_iff.1 hfx.lt e (by simpa using he) hb
          refine isl (by simpa using hlt) ?_
          rintro ⟨x', hx', ex⟩
          have hedge : hasEdge q.after.toList e.on = true := hasEdge_iff.2 ⟨e, by simpa using he, hb, rfl⟩
          rw [← ex] at hedge
          rcases List.mem_cons.1 hx' with e' | e'
          · subst e'
            have := hord.self _ List.mem_cons_self
            simp only at this hedge; rw [this] at hedge; simp at hedge
          · have := ((List.pairwise_cons.1 hord.pw).1 _ e').1
            simp only at this; rw [this] at hedge; simp at hedge
        rw [hready] at this; simp at this
    · intro i hi
      obtain ⟨h0, q, hq, hall⟩ := mem_ready.1 hi
      obtain ⟨x', hx', ei⟩ := (hli i).1 h0
      obtain ⟨b, i', q'⟩ := x'
      simp only at ei; subst ei
      obtain ⟨r1, r2, rfl⟩ := List.append_of_mem hx'
      have hp' := List.pairwise_append.1 hord.pw
      have hqq : q = q' := by
        have := hord.is _ hx'
        simp only at this
        rw [hq] at this; simpa using this
      subst hqq
      have nowait : ∀ z ∈ r1 ++ (b, i', q) :: r2, hasEdge q.after.toList z.2.1 = true → False := by
        intro z hz hb
        obtain ⟨e, he, heb, heo⟩ := hasEdge_iff.1 hb
        have hlis := hall e (by simpa using he) (by rw [bind_any rfl]; exact heb)
        rw [heo] at hlis
        have hx' : listed.getD z.2.1 true = false := (hli z.2.1).2 ⟨z, hz, rfl⟩
        have hlt := low hx'
        simp [Array.getD, hlt] at hlis hx'
        rw [hlis] at hx'; simp at hx'
      have quiet1 : ∀ y ∈ r1, y.1 = false := by
        intro y hy
        cases hb : y.1 with
        | false => rfl
        | true =>
          obtain ⟨z, hz, he⟩ := hal.wait hy hb
          exact (nowait z hz he).elim
      have hfirst : Run P ops n K acc ((b, i', q) :: (r1 ++ r2)) s := by
        refine Run.first (fun x hx => ⟨quiet1 x hx, ?_, ?_, ?_⟩) hr
        · exact (hp'.2.2 x hx _ List.mem_cons_self).2.symm
        · cases hb : hasEdge q.after.toList x.2.1 with
          | false => rfl
          | true => exact (nowait x (List.mem_append_left _ hx) hb).elim
        · exact (hp'.2.2 x hx _ List.mem_cons_self).1
      have hord' : Ordd ops (r1 ++ r2) := hord.sub (List.Sublist.append (List.Sublist.refl _) (List.sublist_cons_self _ _))
      have hal' : Alones (r1 ++ r2) := hal.drop quiet1
      have hli' : ∀ k, (listed.set! i' true).getD k true = false ↔ ∃ x ∈ r1 ++ r2, x.2.1 = k := by
        intro k
        have uniq : ∀ x ∈ r1 ++ r2, x.2.1 ≠ i' := by
          intro x hm
          rcases List.mem_append.1 hm with h' | h'
          · exact (hp'.2.2 _ h' _ List.mem_cons_self).2
          · exact ((List.pairwise_cons.1 hp'.2.1).1 _ h').2.symm
        by_cases hik : i' = k
        · subst hik
          constructor
          · intro h
            have hlt := low h0
            simp [Array.getD, hlt] at h
          · rintro ⟨x, hx, e⟩; exact absurd e (uniq x hx)
        · rw [Array.set!_eq_setIfInBounds, getD_set_ne true hik, hli k]
          constructor
          · rintro ⟨x, hx, e⟩
            refine ⟨x, ?_, e⟩
            rcases List.mem_append.1 hx with h' | h'
            · exact List.mem_append_left _ h'
            · rcases List.mem_cons.1 h' with h'' | h''
              · subst h''; exact absurd e hik
              · exact List.mem_append_right _ h''
          · rintro ⟨x, hx, e⟩
            refine ⟨x, ?_, e⟩
            rcases List.mem_append.1 hx with h' | h'
            · exact List.mem_append_left _ h'
            · exact List.mem_append_right _ (List.mem_cons_of_mem _ h')
      cases b with
      | false =>
        obtain ⟨hfx, v, fp, hd, hlk, _, hrun⟩ := hfirst
        refine hd s ⟨rfl, fun _ _ => rfl, fun _ _ _ _ _ => rfl⟩ hlk rd ρ a w Q _ hs fun ρ' a' w' hput hst => ?_
        refine ih (r1 ++ r2) _ _ (by simp at hl ⊢; omega) hord' hal' hli' (by simp [hsz]) (by rw [put_n]; exact hsn) hrun hput ?_
        intro f ρ'' a'' w'' hk hr'' hst''
        rw [put_hp] at hst''
        exact hf f ρ'' a'' w'' hk hr'' (StpN.trans' hst hst'')
      | true =>
        obtain ⟨hfx, _, hd⟩ := hfirst
        refine hd s ⟨rfl, fun _ _ => rfl, fun _ _ _ _ _ => rfl⟩ rfl rd ρ a w Q _ hs fun v h' ρ' a' w' hΦ hput hst => ?_
        refine ih (r1 ++ r2) _ _ (by simp at hl ⊢; omega) hord' hal' hli' (by simp [hsz]) (by rw [put_n]; exact hsn) hΦ.2 hput ?_
        intro f ρ'' a'' w'' hk hr'' hst''
        rw [put_hp] at hst''
        exact hf f ρ'' a'' w'' hk hr'' (StpN.trans' hst hst'')
end
end Go.Pt
namespace Go.Pt
open Go
section
variable {P : Program} {n₀ : Nat} {tab : Nat → Ty} {J : Jd}
def relTag (tab : Nat → Ty) (r : List (Nat × Oper)) (i : Nat) (q : Oper) : Bool := match clsOf tab q.op with
  | 2 => alone r [i]
  | _ => false
def tagged (tab : Nat → Ty) : List (Nat × Oper) → List Left
  | [] => []
  | (i, q) :: r => (relTag tab r i q, i, q) :: tagged tab r
theorem dummyZ_val {o : Option AV} {cok : Bool} {w : World} {S : Nat → Nat → Prop} {ρ : Ro} {n : Nat} : Val w S ρ n (dummyZ o cok) undef := by
  unfold dummyZ
  split
  · split <;> exact undef_val
  · exact Val.junk
theorem dummy_val {tab : Nat → Ty} {op : Op} {w : World} {S : Nat → Nat → Prop} {ρ : Ro} {n : Nat} : Val w S ρ n (dummy tab op) undef := by
  unfold dummy
  split
  · split
    · exact undef_val
    · exact Val.junk
  · split
    · exact dummyZ_val
    · exact Val.junk
  · split
    · exact undef_val
    · exact Val.junk
  · exact dummyZ_val
  · exact dummyZ_val
  · exact Val.junk
theorem okAcc_no {es : List Edge} {acc : List (Nat × Fp)} : okAcc acc es .no = true := okAcc_iff.2 fun x _ h => by cases h' : x.2 <;> rw [h'] at h <;> simp [clash] at h
theorem fpR_go {op : Op} {s : St} (h : List Ent) : (fpR op s).go h = h := by
  unfold fpR
  repeat' split
  all_goals rfl
theorem DoesC.mono {ops : Array Oper} {i : Nat} {q : Oper} {s : St} {Φ Ψ : AV → List Ent → Prop} (h : DoesC P ops i q s Φ) (hm : ∀ v h', Φ v h' → Ψ v h') : DoesC P ops i q s Ψ :=
  fun s' ha hp rd ρ a w Q next hs hn => h s' ha hp rd ρ a w Q next hs fun v h' ρ' a' w' hΦ => hn v h' ρ' a' w' (hm v h' hΦ)
theorem DoesC.off {ops : Array Oper} {i : Nat} {q : Oper} {s : St} {d : AV} (hd : ∀ {w : World} {S : Nat → Nat → Prop} {ρ : Ro} {n : Nat}, Val w S ρ n d undef) (hq : ops[i]? = some q) (hf : fits q.dst s.n = true) (hw : Wanted ops q s false) : DoesC P ops i q s fun v h' => v = d ∧ h' = s.hp := by
  intro s' ha hp rd ρ a w Q next hs hn
  have hf' : fits q.dst s'.n = true := by rw [ha.n]; exact hf
  unfold wpOpIn
  simp only [hq]
  rw [if_neg (by rw [hw s' ha ρ a w hs]; simp)]
  refine ⟨fun _ _ => trivial, ?_⟩
  rw [← hp] at hn
  exact hn _ _ ρ _ w ⟨rfl, rfl⟩ (put_rel hs hf' hd (Stp.refl _ _ _) hs.rel) (Stp.refl _ _ _)
theorem cls0 {op : Op} (h : clsOf tab op = 0) : sureOp tab op = true := by
  unfold clsOf at h
  repeat' split at h
  all_goals first | assumption | simp at h
theorem cls1 {op : Op} (h : clsOf tab op = 1) : readOp op = true := by
  unfold clsOf at h
  repeat' split at h
  all_goals first | assumption | simp at h
theorem frames_self {es : List Edge} {h : List Ent} {acc : List (Nat × Fp)} (hq : quietAcc acc es = true) : framesP acc es h h :=
  framesP_iff.2 fun x hx he => (quiet_iff.1 hq x hx he).imp id fun ⟨id, e⟩ => ⟨id, e, rfl⟩
theorem aopG_read {op : Op} (hr : readOp op = true) {g : Bool} {s : St} {K E : AV → List Ent → Prop} : aopG J tab g op s K E = aop J tab op s K E := by
  cases op <;> simp [readOp] at hr <;> rfl
theorem cls2 {op : Op} (h : clsOf tab op = 2) : isCall op = true := by
  unfold clsOf at h
  repeat' split at h
  all_goals first | assumption | simp at h
theorem call_same {op : Op} (h : isCall op = true) {s s' : St} (he : ∀ x ∈ op.operands, s'.ev x = s.ev x) (hp : s'.hp = s.hp) {K E : AV → List Ent → Prop} (ha : aop J tab op s K E) : aop J tab op s' K E := by
  unfold isCall at h
  split at h
  · rename_i f args ts
    have e1 := he f (by simp [Op.operands, Call.operands])
    have e3 : evs s' args.toList = evs s args.toList := evs_eq' fun x hx => he x (by simp [Op.operands, Call.operands]; right; simpa using hx)
    simp only [aop, e1, e3, hp] at ha ⊢
    exact ha
  · simp at h
theorem dopX_of {b : Bool} {op : Op} {s : St} {F : Prop} {k : AV → Fp → Prop} (h : dopX (std P n₀) tab b op s F k) :
    (∃ args ts x y t u l e e' xs ys tk, op = .call ⟨.builtin .append, args, ts⟩ ∧ evs s args.toList = [x, y] ∧ ts.toList = t :: u :: l ∧ (tab t).k = .slice e ∧ ltN 0 (tab e).bytes = true ∧ asSl (tab e).size x = some (xs, .full) ∧ (tab u).k = .slice e' ∧ asSl (tab e).size y = some (ys, tk) ∧
      (xs.length + ys.length) * (tab e).bytes ≤ 2 ^ 47 ∧ k (.sl (tab e).size (xs ++ ys) .no) .no) ∨ dopW (std P n₀) tab op s F k ∨ F := by
  unfold dopX at h
  split at h
  · exact .inr (.inl h)
  split at h
  case h_2 => exact .inr (.inl h)
  rename_i args ts
  split at h
  case h_2 => exact .inr (.inr h)
  rename_i x y hxy
  split at h
  case h_2 => exact .inr (.inr h)
  rename_i t u l hts
  split at h
  case h_2 => exact .inr (.inr h)
  rename_i e hk
  split at h
  case h_2 => exact .inr (.inl h)
  split at h
  case h_2 => exact .inr (.inr h)
  rename_i hb
  split at h
  case h_2 => exact .inr (.inl h)
  rename_i xs hx
  split at h
  case h_2 => exact .inr (.inr h)
  rename_i e' hu
  split at h
  · exact .inr (.inr h)
  rename_i ys tk hy
  exact .inl ⟨args, ts, x, y, t, u, l, e, e', xs, ys, tk, rfl, hxy, hts, hk, hb, hx, hu, hy, h.1, h.2⟩
theorem Does.appQ (ht : TabOk P tab) {ops : Array Oper} {i : Nat} {q : Oper} {s : St} {o : List (Nat × AV)} {args ts} {x y : AV} {t u e e' : TypeId} {l : List TypeId} {xs ys : List AV} {tk : Tok} (hq : ops[i]? = some q) (hf : fits q.dst s.n = true) (hw : Wanted ops q s true)
    (ho : ∀ s' : St, (∀ x ∈ reads q.op, s'.ev x = s.ev x) → ∀ K' : St → Prop, K' (s'.over o) → strip true (reads q.op) s' K')
    (hov : ∀ s' : St, Agree ops.toList q s s' → ∀ x ∈ q.op.operands, (s'.over o).ev x = (s.over o).ev x)
    (hop : q.op = .call ⟨.builtin .append, args, ts⟩) (p1 : evs (s.over o) args.toList = [x, y]) (p2 : ts.toList = t :: u :: l) (p3 : (tab t).k = .slice e) (p4 : ltN 0 (tab e).bytes = true) (p5 : asSl (tab e).size x = some (xs, .full)) (p6 : (tab u).k = .slice e') (p7 : asSl (tab e).size y = some (ys, tk))
    (p8 : (xs.length + ys.length) * (tab e).bytes ≤ 2 ^ 47) : Does P ops i q s (.sl (tab e).size (xs ++ ys) .no) .no := by
  intro s' ha hp rd ρ a w Q next hs hn
  have hf' : fits q.dst s'.n = true := by rw [ha.n]; exact hf
  unfold wpOpIn
  simp only [hq]
  rw [if_pos (hw s' ha ρ a w hs)]
  obtain ⟨s1, h1, h2, h3, h4⟩ := strip_sound (w := w) (ρ := ρ) (a := a) (ho s' (fun x hx => ha.ev x (reads_sub hx)) (fun x => x = s'.over o) rfl)
  subst h1
  have hs1 := h4 rfl hs
  have he := hov s' ha
  rw [hop] at he
  have e3 : evs (s'.over o) args.toList = [x, y] := (evs_eq' fun x hx => he x (by simp [Op.operands, Call.operands]; simpa using hx)).trans p1
  have hv := evs_val hs1 args.toList
  have hmap : args.map a.eval = (args.toList.map a.eval).toArray := by apply Array.ext'; simp
  rw [e3] at hv
  generalize hus : args.toList.map a.eval = us at hv hmap
  match us, hv with
  | [v1, v2], ⟨hv1, hv2, _⟩ =>
    refine wpIn_of_wp (fun c e => by rw [hop] at e; cases e) ?_
    refine sound_appendQ (K := fun v' h' => v' = .sl (tab e).size (xs ++ ys) .no ∧ h' = s'.hp) ht hop hs1 hmap p2 hv1 hv2 p3 p4 p5 p6 p7 p8 ⟨rfl, rfl⟩ ⟨fun v' u ρ' σ' w' hk hv hst hrl => ?_⟩
    obtain ⟨rfl, rfl⟩ := hk
    exact hn ρ' _ w' (put_rel hs hf' hv hst hrl) hst
theorem run_of (ht : TabOk P tab) {ops : Array Oper} {n : Nat} {F : Prop} (hF : ¬F) {K : St → Prop} : ∀ {r : List (Nat × Oper)} {acc : List (Nat × Fp)} {s : St}, (∀ x ∈ r, ops[x.1]? = some x.2) → s.n = n →
    drawK (std P n₀) tab ops.toList (lenN ops.toList) F r acc s K → Run P ops n K acc (tagged tab r) s
  | [], _, s, _, _, h => ⟨s, h, Like.refl _⟩
  | (i, q) :: r, acc, s, hd, hn, h => by
    have hq : ops[i]? = some q := hd _ List.mem_cons_self
    have hd' : ∀ x ∈ r, ops[x.1]? = some x.2 := fun x hx => hd x (List.mem_cons_of_mem _ hx)
    simp only [drawK, std_hold] at h
    split at h
    · exact absurd h hF
    rename_i h2
    split at h
    · exact absurd h hF
    rename_i h3
    split at h
    · exact absurd h hF
    rename_i h4
    split at h
    · exact absurd h hF
    rename_i h5
    have fx : (∀ j b d, q.guard = some (j, b) → (nth ops.toList j).bind (·.dst) = some d → waits ops.toList i q.after.toList [.tmp d] = true) → Fixed ops.toList n i q :=
      fun hg => ⟨by simpa using hq, hg, hn ▸ h2, by rw [← lenN_eq]; exact h3, h4, h5⟩
    have go : ∀ {v fp}, (∀ j b d, q.guard = some (j, b) → (nth ops.toList j).bind (·.dst) = some d → waits ops.toList i q.after.toList [.tmp d] = true) → relTag tab r i q = false → Does P ops i q s v fp → Looks fp s.hp s.hp → okAcc acc q.after.toList fp = true →
        drawK (std P n₀) tab ops.toList (lenN ops.toList) F r ((i, fp) :: acc) (s.put q.dst v (fp.go s.hp)) K → Run P ops n K acc (tagged tab ((i, q) :: r)) s := by
      intro v fp hg hr hdo hl hok hk
      simp only [tagged, hr]
      exact ⟨fx hg, v, fp, hdo, hl, hok, run_of ht hF hd' (by rw [put_n]; exact hn) hk⟩
    have goC : ∀ {Φ : AV → List Ent → Prop}, (∀ j b d, q.guard = some (j, b) → (nth ops.toList j).bind (·.dst) = some d → waits ops.toList i q.after.toList [.tmp d] = true) → relTag tab r i q = true → quietAcc acc q.after.toList = true → DoesC P ops i q s Φ →
        (∀ v h', Φ v h' → framesP acc q.after.toList s.hp h' ∧ drawK (std P n₀) tab ops.toList (lenN ops.toList) F r acc (s.put q.dst v h') K) → Run P ops n K acc (tagged tab ((i, q) :: r)) s := by
      intro Φ hg hr hqt hdo hk
      simp only [tagged, hr]
      exact ⟨fx hg, hqt, hdo.mono fun v h' hΦ => ⟨(hk v h' hΦ).1, run_of ht hF hd' (by rw [put_n]; exact hn) (hk v h' hΦ).2⟩⟩
    have tagC : ∀ {c : Nat}, clsOf tab q.op = c → c ≠ 2 → relTag tab r i q = false := by
      intro c hc hne
      unfold relTag
      split
      · rename_i e; omega
      · rfl
    have tagA : clsOf tab q.op = 2 → relTag tab r i q = alone r [i] := by
      intro hc; simp only [relTag, hc]
    have ovs : ∀ {o : List (Nat × AV)} {s' : St}, Agree ops.toList q s s' → ∀ x ∈ q.op.operands, (s'.over o).ev x = (s.over o).ev x := fun ha x hx => ev_over (ha.ev x hx)
    have pureC : ∀ {o : List (Nat × AV)} {f : Operand} {args ts} {fn caps} {v : AV}, q.op = .call ⟨.value f, args, ts⟩ → (s.over o).ev f = .func fn caps → (∀ (h : List Ent) (K E : AV → List Ent → Prop), K v h → (std P n₀).call fn (evs (s.over o) args.toList ++ caps) h K E) →
        ∀ s' : St, Agree ops.toList q s s' → ∀ K E : AV → List Ent → Prop, K v s'.hp → aop (std P n₀) tab q.op (s'.over o) K E := by
      intro o f args ts fn caps v hop hgf hv s' ha K' E' hk'
      have he := ovs (o := o) ha
      rw [hop] at he ⊢
      have e1 := he f (by simp [Op.operands, Call.operands])
      have e3 : evs (s'.over o) args.toList = evs (s.over o) args.toList := evs_eq' fun x hx => he x (by simp [Op.operands, Call.operands]; right; simpa using hx)
      simp only [aop, e1, hgf, e3]
      exact hv _ _ _ hk'
    have newC : ∀ {o : List (Nat × AV)} {f : Operand} {args ts} {fn caps} {v : AV} {pos : Nat}, q.op = .call ⟨.value f, args, ts⟩ → (s.over o).ev f = .func fn caps → NewA P fn (evs (s.over o) args.toList ++ caps) v pos →
        ∀ s' : St, Agree ops.toList q s s' → lenN s'.hp = lenN s.hp → ∀ K E : AV → List Ent → Prop, K (ren (up [] (lenN s.hp)) 9 v) (snoc s'.hp (.tip pos)) → aop (std P n₀) tab q.op (s'.over o) K E := by
      intro o f args ts fn caps v pos hop hgf hv s' ha hlen K' E' hk'
      have he := ovs (o := o) ha
      rw [hop] at he ⊢
      have e1 := he f (by simp [Op.operands, Call.operands])
      have e3 : evs (s'.over o) args.toList = evs (s.over o) args.toList := evs_eq' fun x hx => he x (by simp [Op.operands, Call.operands]; right; simpa using hx)
      simp only [aop, e1, hgf, e3]
      exact hv _ _ _ (by rw [← hlen] at hk'; exact hk')
    split at h
    · rename_i hg
      have nog : ∀ j b d, q.guard = some (j, b) → (nth ops.toList j).bind (·.dst) = some d → waits ops.toList i q.after.toList [.tmp d] = true := by
        intro j b d e; rw [hg] at e; simp at e
      have hw : Wanted ops q s true := Wanted.none hg
      split at h
      · rename_i hc
        obtain ⟨o, h, ho⟩ := strip_sure h
        obtain ⟨v, hk, hv⟩ := sure_of (cls0 hc) h
        exact go nog (tagC hc (by omega)) (Does.on (n₀ := n₀) (fp := .no) ht hq h2 hw ho fun s' ha _ K' E' hk' => hv (s'.over o) (ovs ha) _ _ hk') trivial okAcc_no hk
      · rename_i hc
        obtain ⟨o, h, ho⟩ := strip_sure h
        split at h
        · exact absurd h hF
        rename_i hok
        obtain ⟨v, hk, hl, hv⟩ := read_of (cls1 hc) h
        refine go nog (tagC hc (by omega)) (Does.on (n₀ := n₀) ht hq h2 hw ho fun s' ha hl' K' E' hk' => ?_) hl hok (by rw [fpR_go]; exact hk)
        rw [fpR_go] at hk'
        exact hv (s'.over o) (ovs ha) hl' _ _ hk'
      · rename_i hc
        obtain ⟨o, h, ho⟩ := strip_sure h
        split at h
        · rename_i hal
          split at h
          · exact absurd h hF
          rename_i hqt
          refine goC nog ((tagA hc).trans hal) hqt (DoesC.on (n₀ := n₀) ht hq h2 hw ho fun s' ha hp => ?_) fun v h' hΦ => hΦ
          exact call_same (cls2 hc) (ovs ha) hp h
        · rename_i hal
          split at h
          · rename_i f args ts hop
            split at h
            · rename_i fn caps hgf
              rcases h with ⟨v, hv, hk⟩ | ⟨v, pos, hv, hk⟩
              · exact go nog ((tagA hc).trans hal) (Does.on (n₀ := n₀) (fp := .no) ht hq h2 hw ho fun s' ha _ K' E' hk' => pureC hop hgf hv s' ha _ _ hk') trivial okAcc_no hk
              · split at hk
                · exact absurd hk hF
                rename_i hok
                exact go nog ((tagA hc).trans hal) (Does.on (n₀ := n₀) (fp := .new (lenN s.hp) (.tip pos)) ht hq h2 hw ho fun s' ha hl' K' E' hk' => newC hop hgf hv s' ha hl'.1 _ _ hk') ⟨rfl, rfl⟩ hok hk
            · exact absurd h hF
          · exact absurd h hF
      · rename_i hc0 hc1 hc2
        obtain ⟨o, h, ho⟩ := strip_sure h
        rcases dopX_of h with h | h | h
        · obtain ⟨args, ts, x, y, t, u, l, e, e', xs, ys, tk, hop, p1, p2, p3, p4, p5, p6, p7, p8, hk⟩ := h
          split at hk
          · exact absurd hk hF
          rename_i hok
          exact go nog (tagC rfl hc2) (Does.appQ ht hq h2 hw ho (fun s' ha => ovs ha) hop p1 p2 p3 p4 p5 p6 p7 p8) trivial hok hk
        case inr.inr => exact absurd h hF
        rcases write_of h with h | ⟨v, fp, hk, hl, hv⟩
        · exact absurd h hF
        split at hk
        · exact absurd hk hF
        rename_i hok
        exact go nog (tagC rfl hc2) (Does.on (n₀ := n₀) ht hq h2 hw ho fun s' ha hl' K' E' hk' => hv (s'.over o) (ovs ha) hl' _ _ hk') hl hok hk
    · rename_i j b hg
      split at h
      · exact absurd h hF
      rename_i d hd
      split at h
      · exact absurd h hF
      rename_i hwt
      have isg : ∀ j b d, q.guard = some (j, b) → (nth ops.toList j).bind (·.dst) = some d → waits ops.toList i q.after.toList [.tmp d] = true := by
        intro j' b' d' e e'
        rw [hg] at e; simp only [Option.some.injEq, Prod.mk.injEq] at e
        obtain ⟨rfl, rfl⟩ := e
        rw [hd] at e'; simp only [Option.some.injEq] at e'; subst e'; exact hwt
      split at h
      · exact absurd h hF
      case h_2 =>
        rename_i hgo
        have hw : Wanted ops q s false := Wanted.of hg hd hgo
        split at h
        · rename_i hc
          split at h
          · rename_i hal
            split at h
            · exact absurd h hF
            rename_i hqt
            exact goC isg ((tagA hc).trans hal) hqt (DoesC.off (d := dumb tab q) dumb_val hq h2 hw) fun v h' ⟨e1, e2⟩ => by subst e1 e2; exact ⟨frames_self hqt, h⟩
          · rename_i hal
            exact go isg ((tagA hc).trans hal) (Does.off hq h2 hw dumb_val) trivial okAcc_no h
        · rename_i hc2
          exact go isg (tagC rfl hc2) (Does.off hq h2 hw dumb_val) trivial okAcc_no h
      rename_i g hgo
      have hw : Wanted ops q s g := Wanted.of hg hd hgo
      split at h
      · rename_i hc
        split at h
        · obtain ⟨o, h, ho⟩ := strip_sure h
          obtain ⟨v, hk, hv⟩ := sureG_of (cls0 hc) h
          exact go isg (tagC hc (by omega)) (Does.guarded (n₀ := n₀) (fp := .no) ht hq h2 hw (fun _ => rfl) ho fun s' ha _ hgt K' E' hk' => aopG_aop (hv (s'.over o) (ovs ha) _ _ hk') hgt) trivial okAcc_no hk
        · cases g with
          | true =>
            obtain ⟨o, h, ho⟩ := strip_sure (h.1 rfl)
            obtain ⟨v, hk, hv⟩ := sure_of (cls0 hc) h
            exact go isg (tagC hc (by omega)) (Does.on (n₀ := n₀) (fp := .no) ht hq h2 hw ho fun s' ha _ K' E' hk' => hv (s'.over o) (ovs ha) _ _ hk') trivial okAcc_no hk
          | false => exact go isg (tagC hc (by omega)) (Does.off hq h2 hw dummy_val) trivial okAcc_no (h.2 rfl)
      · rename_i hc
        split at h
        · obtain ⟨o, h, ho⟩ := strip_sure h
          split at h
          · exact absurd h hF
          rename_i hok
          rw [aopG_read (cls1 hc)] at h
          obtain ⟨v, hk, hl, hv⟩ := read_of (cls1 hc) h
          refine go isg (tagC hc (by omega)) (Does.guarded (n₀ := n₀) ht hq h2 hw fpR_go ho fun s' ha hl' hgt K' E' hk' => ?_) hl hok (by rw [fpR_go]; exact hk)
          exact hv (s'.over o) (ovs ha) hl' _ _ hk'
        · cases g with
          | true =>
            obtain ⟨o, h, ho⟩ := strip_sure (h.1 rfl)
            split at h
            · exact absurd h hF
            rename_i hok
            obtain ⟨v, hk, hl, hv⟩ := read_of (cls1 hc) h
            refine go isg (tagC hc (by omega)) (Does.on (n₀ := n₀) ht hq h2 hw ho fun s' ha hl' K' E' hk' => ?_) hl hok (by rw [fpR_go]; exact hk)
            rw [fpR_go] at hk'
            exact hv (s'.over o) (ovs ha) hl' _ _ hk'
          | false => exact go isg (tagC hc (by omega)) (Does.off hq h2 hw dummy_val) trivial okAcc_no (h.2 rfl)
      · rename_i hc
        split at h
        · rename_i hal
          split at h
          · exact absurd h hF
          rename_i hqt
          cases g with
          | true =>
            obtain ⟨o, h, ho⟩ := strip_sure (h.1 rfl)
            refine goC isg ((tagA hc).trans hal) hqt (DoesC.on (n₀ := n₀) ht hq h2 hw ho fun s' ha hp => ?_) fun v h' hΦ => hΦ
            exact call_same (cls2 hc) (ovs ha) hp h
          | false => exact goC isg ((tagA hc).trans hal) hqt (DoesC.off (d := dumb tab q) dumb_val hq h2 hw) fun v h' ⟨e1, e2⟩ => by subst e1 e2; exact ⟨frames_self hqt, h.2 rfl⟩
        · rename_i hal
          obtain ⟨o, h, ho⟩ := strip_sure h
          split at h
          · rename_i f args ts hop
            split at h
            · rename_i fn caps hgf
              obtain ⟨v, hv, hk⟩ := h
              exact go isg ((tagA hc).trans hal) (Does.guarded (n₀ := n₀) (fp := .no) ht hq h2 hw (fun _ => rfl) ho fun s' ha _ hgt K' E' hk' => pureC hop hgf hv s' ha _ _ hk') trivial okAcc_no hk
            · exact absurd h hF
          · exact absurd h hF
      · rename_i hc0 hc1 hc2
        cases g with
        | true =>
          obtain ⟨o, h, ho⟩ := strip_sure (h.1 rfl)
          rcases dopX_of h with h | h | h
          · obtain ⟨args, ts, x, y, t, u, l, e, e', xs, ys, tk, hop, p1, p2, p3, p4, p5, p6, p7, p8, hk⟩ := h
            split at hk
            · exact absurd hk hF
            rename_i hok
            exact go isg (tagC rfl hc2) (Does.appQ ht hq h2 hw ho (fun s' ha => ovs ha) hop p1 p2 p3 p4 p5 p6 p7 p8) trivial hok hk
          case inr.inr => exact absurd h hF
          rcases write_of h with h | ⟨v, fp, hk, hl, hv⟩
          · exact absurd h hF
          split at hk
          · exact absurd hk hF
          rename_i hok
          exact go isg (tagC rfl hc2) (Does.on (n₀ := n₀) ht hq h2 hw ho fun s' ha hl' K' E' hk' => hv (s'.over o) (ovs ha) hl' _ _ hk') hl hok hk
        | false => exact go isg (tagC rfl hc2) (Does.off hq h2 hw Val.junk) trivial okAcc_no (h.2 rfl)
theorem noneIn_iff {es : List Edge} : ∀ {l : List (Nat × Oper)}, noneIn es l = true ↔ ∀ x ∈ l, hasEdge es x.1 = false
  | [] => by simp [noneIn]
  | (j, q) :: r => by
    simp only [noneIn, List.mem_cons, forall_eq_or_imp]
    split
    · rename_i h; simp [h]
    · rename_i h; rw [noneIn_iff]; simp [h]
theorem pickOf_of {c : Nat} {all : List (Nat × Oper)} : ∀ {l : List (Nat × Oper)} {x : Nat × Oper} {r : List (Nat × Oper)}, pickOf tab c all l = some (x, r) → (x :: r).Perm l ∧ noneIn x.2.after.toList all = true
  | [], _, _, h => by simp [pickOf] at h
  | y :: l, x, r, h => by
    have rest : ∀ {o : Option ((Nat × Oper) × List (Nat × Oper))}, o = pickOf tab c all l → (match o with | some (z, l) => some (z, y :: l) | none => none) = some (x, r) → (x :: r).Perm (y :: l) ∧ noneIn x.2.after.toList all = true := by
      intro o ho h
      split at h
      · rename_i z m
        simp only [Option.some.injEq, Prod.mk.injEq] at h
        obtain ⟨rfl, rfl⟩ := h
        obtain ⟨h1, h2⟩ := pickOf_of ho.symm
        exact ⟨(List.Perm.swap _ _ _).trans (h1.cons _), h2⟩
      · simp at h
    simp only [pickOf] at h
    split at h
    · split at h
      · rename_i h2
        simp only [Option.some.injEq, Prod.mk.injEq] at h
        obtain ⟨rfl, rfl⟩ := h
        exact ⟨List.Perm.refl _, h2⟩
      · exact rest rfl h
    · exact rest rfl h
theorem pick4_of {l : List (Nat × Oper)} {x : Nat × Oper} {r : List (Nat × Oper)} (h : pick4 tab l = some (x, r)) : (x :: r).Perm l ∧ noneIn x.2.after.toList l = true := by
  unfold pick4 at h
  split at h
  · rename_i e; cases h; exact pickOf_of e
  split at h
  · rename_i e; cases h; exact pickOf_of e
  split at h
  · rename_i e; cases h; exact pickOf_of e
  exact pickOf_of h
theorem orderOf_of : ∀ {n : Nat} {l m : List (Nat × Oper)}, orderOf tab n l = some m → m.Perm l ∧ m.Pairwise (fun x y => hasEdge x.2.after.toList y.1 = false) ∧ ∀ x ∈ m, hasEdge x.2.after.toList x.1 = false
  | _, [], m, h => by
    have : m = [] := by cases ‹Nat› <;> simp [orderOf] at h <;> exact h
    subst this; simp
  | 0, x :: l, m, h => by simp [orderOf] at h
  | n + 1, y :: l, m, h => by
    simp only [orderOf] at h
    split at h
    · simp at h
    rename_i x r hp
    split at h
    · simp at h
    rename_i m' hm
    simp only [Option.some.injEq] at h
    subst h
    obtain ⟨h1, h2⟩ := pick4_of hp
    obtain ⟨h3, h4, h5⟩ := orderOf_of hm
    have h2 := noneIn_iff.1 h2
    refine ⟨(h3.cons x).trans h1, List.pairwise_cons.2 ⟨fun z hz => h2 z (h1.subset (List.mem_cons_of_mem _ (h3.subset hz))), h4⟩, fun z hz => ?_⟩
    rcases List.mem_cons.1 hz with e | e
    · subst e; exact h2 z (h1.subset List.mem_cons_self)
    · exact h5 z e
theorem numbered_eq : ∀ {i : Nat} {l : List Oper}, numbered i l = (l.zipIdx i).map fun x => (x.2, x.1)
  | _, [] => rfl
  | i, q :: l => by simp only [numbered, List.zipIdx_cons, List.map_cons]; rw [numbered_eq]
theorem tagged_map : ∀ {l : List (Nat × Oper)}, (tagged tab l).map (·.2) = l
  | [] => rfl
  | (i, q) :: r => by simp only [tagged, List.map_cons]; rw [tagged_map]
theorem alones_tagged : ∀ {l : List (Nat × Oper)}, Alones (tagged tab l)
  | [] => trivial
  | (i, q) :: r => ⟨fun e => by
      rw [tagged_map]
      unfold relTag at e
      split at e
      · exact e
      · simp at e, alones_tagged⟩
theorem drew_rel {ρ : Ro} {s : St} {a : Act} {w : World} (k : Nat) (h : RelS ρ s a w) : RelS ρ s a { w with drawn := k } := by
  have hr := rel_same (w' := { w with drawn := k }) h.rel rfl rfl rfl rfl
  exact ⟨h.defers.step h.rel hr.1, h.size, hr.2, fun t => (h.vals t).step hr.1⟩
theorem mem_numbered {ops : Array Oper} {x : Nat × Oper} : x ∈ numbered 0 ops.toList ↔ ops[x.1]? = some x.2 := by
  obtain ⟨i, q⟩ := x
  rw [numbered_eq]
  simp only [List.mem_map, Prod.mk.injEq, Prod.exists]
  constructor
  · rintro ⟨a, b, hm, rfl, rfl⟩
    have := List.mem_zipIdx_iff_getElem?.1 hm
    simpa using this
  · intro h
    exact ⟨q, i, List.mem_zipIdx_iff_getElem?.2 (by simpa using h), rfl, rfl⟩
theorem draw_any {rd : Option Nat} (ht : TabOk P tab) {ops : Array Oper} {F : Prop} (hF : ¬F) {K : St → Prop} {s : St} {a : Act} {w : World} {ρ : Ro} {Q : Exit → Act → World → Prop}
    (h : drawR (std P n₀) tab ops.toList F s K) (hs : RelS ρ s a w)
    (hf : ∀ f ρ' a' w', K f → RelS ρ' f a' w' → Stp ρ s.hp w ρ' f.hp w' → Q .normal a' w') : wpAnyIn (fen rd) 0 P .any ops Q ops.size (Array.replicate ops.size false) a { w with drawn := w.drawn + 1 } := by
  unfold drawR at h
  split at h
  · exact absurd h hF
  split at h
  · exact absurd h hF
  rename_i r hr
  obtain ⟨hp, h1, h2⟩ := orderOf_of hr
  have his : ∀ x ∈ r, ops[x.1]? = some x.2 := fun x hx => mem_numbered.1 (hp.subset hx)
  have hrun := run_of (n := s.n) ht hF his rfl h
  have hnd : r.Pairwise fun x y => x.1 ≠ y.1 := by
    have h0 : (numbered 0 ops.toList).Pairwise fun x y => x.1 ≠ y.1 := by
      rw [numbered_eq, List.pairwise_map]
      have key : ∀ (l : List Oper) (k : Nat), (l.zipIdx k).Pairwise fun x y => x.2 ≠ y.2 := by
        intro l
        induction l with
        | nil => intro k; simp
        | cons x l ih =>
          intro k
          simp only [List.zipIdx_cons, List.pairwise_cons]
          refine ⟨fun y hy => ?_, ih _⟩
          have := List.le_snd_of_mem_zipIdx hy
          omega
      exact key _ 0
    exact hp.symm.pairwise h0 fun h => h.symm
  have hlen : r.length = ops.size := by
    rw [hp.length_eq, numbered_eq]; simp
  refine run_any ops.size (tagged tab r) [] _ ?_ ⟨?_, ?_, ?_⟩ alones_tagged ?_ (by simp) rfl hrun (drew_rel _ hs) ?_
  · rw [← hlen, ← congrArg List.length (tagged_map (tab := tab) (l := r))]; simp
  · intro x hx
    have : x.2 ∈ (tagged tab r).map (·.2) := List.mem_map_of_mem hx
    rw [tagged_map] at this
    exact his _ this
  · have : ((tagged tab r).map (·.2)).Pairwise fun x y => hasEdge x.2.after.toList y.1 = false ∧ x.1 ≠ y.1 := by rw [tagged_map]; exact h1.and hnd
    rw [List.pairwise_map] at this
    exact this
  · intro x hx
    have : x.2 ∈ (tagged tab r).map (·.2) := List.mem_map_of_mem hx
    rw [tagged_map] at this
    exact h2 _ this
  · intro i
    constructor
    · intro h
      have hlt : i < ops.size := by
        rcases Nat.lt_or_ge i ops.size with h' | h'
        · exact h'
        · simp [Array.getD, Nat.not_lt.2 h'] at h
      have : (i, ops[i]) ∈ r := hp.symm.subset (mem_numbered.2 (by simp [hlt]))
      rw [← tagged_map (tab := tab) (l := r)] at this
      obtain ⟨x, hx, e⟩ := List.mem_map.1 this
      exact ⟨x, hx, by rw [e]⟩
    · rintro ⟨x, hx, e⟩
      have : x.2 ∈ (tagged tab r).map (·.2) := List.mem_map_of_mem hx
      rw [tagged_map] at this
      have := his _ this
      rw [e] at this
      have hlt : i < ops.size := (Array.getElem?_eq_some_iff.1 this).1
      simp [Array.getD, hlt]
  · intro f ρ' a' w' hk hr hst
    exact hf f ρ' a' w' hk hr ⟨hst.os, hst.tape, hst.output, hst.size, hst.frm, hst.own, hst.len, hst.rb, hst.rt, hst.rx, hst.rm, hst.rg⟩
theorem draw_sound {rd : Option Nat} (ht : TabOk P tab) {id : Nat} {ops : Array Oper} {F : Prop} (hF : ¬F) {K : St → Prop} {s : St} {a : Act} {w : World} {ρ : Ro} {Q : Exit → Act → World → Prop}
    (h : drawR (std P n₀) tab ops.toList F s K) (hs : RelS ρ s a w)
    (hf : ∀ f ρ' a' w', K f → RelS ρ' f a' w' → Stp ρ s.hp w ρ' f.hp w' → Q .normal a' w') : (Code.region id ops true).wpIn (fen rd) 0 P Q a w :=
  wpIn_region_any ht.mixed (draw_any ht hF h hs hf)
end
end Go.Pt
namespace Go.Pt
open Go
section
variable {P : Program} {n₀ : Nat} {tab : Nat → Ty} {w : World} {ρ : Ro} {s : St} {a : Act} {Q : Exit → Act → World → Prop}
theorem seq_post {σ : List Ent} {s' : St} {ρ' : Ro} {w' : World} {Qa : Ex → St → Prop} (hst : StpN n₀ ρ σ w ρ' s'.hp w') {e : Exit} {a' : Act} {w'' : World} (h : Post n₀ ρ' s'.hp w' Qa e a' w'') : Post n₀ ρ σ w Qa e a' w'' := by
  obtain ⟨x, s'', ρ'', h1, h2, h3, h4⟩ := h
  exact ⟨x, s'', ρ'', h1, h2, h3, hst.trans h4 (Nat.le_refl _)⟩
theorem ex_block {id i : Nat} {Qa : Ex → St → Prop} {s' : St} (h : blockQ id Qa (.exit i) s') : (i = id ∧ Qa .normal s') ∨ (i ≠ id ∧ Qa (.exit i) s') := by
  simp only [blockQ] at h
  split at h
  · rename_i e; exact .inl ⟨beN_t e, h⟩
  · rename_i e; exact .inr ⟨fun he => by rw [he] at e; simp at e, h⟩
theorem StpN.refl' {n₀ : Nat} {σ : List Ent} (h : n₀ ≤ σ.length) : StpN n₀ ρ σ w ρ σ w := (Stp.refl ρ σ w).le h
theorem stepR_scope {b : Frame} {k : List Item} {cs : List Frame} {c : Code} : step P (lone (b.atR a (.code (.scope c) :: k)) cs w) = .next (lone (b.atR a (.code c :: .inScope c :: k)) cs w) :=
  step_lone_go (by simp [stepG, stepG.exec, Frame.atR])
theorem stepR_inScope {b : Frame} {k : List Item} {cs : List Frame} {c : Code} : step P (lone (b.atR a (.inScope c :: k)) cs w) = .next (lone (b.atR a k) cs w) :=
  step_lone_go (by simp [stepG, stepG.exec, Frame.atR])
theorem wpIn_scope {F : Fence} {n : Nat} {c : Code} (h : c.wpIn F n P (fun e a w => (∀ l, e ≠ .goto l) ∧ Q e a w) a w) : (Code.scope c).wpIn F n P Q a w := by
  intro b k cs hro hb hr
  obtain ⟨e, a₁, w₁, ⟨hg, hq⟩, harr⟩ := h b (.inScope c :: k) cs hro hb hr
  have h1 : ∀ {m}, step P (lone (b.atR a (.code (.scope c) :: k)) cs w) = .next m → StepsIn (Machine.fenced P F) P (lone (b.atR a (.code (.scope c) :: k)) cs w) m := fun hs => .one (fenced_calm hb hr rfl) hs
  cases e with
  | normal => exact ⟨.normal, a₁, w₁, hq, .of_steps (h1 stepR_scope) (StepsIn.trans harr (.one (fenced_calm hb hr rfl) stepR_inScope))⟩
  | exit id =>
    refine ⟨.exit id, a₁, w₁, hq, .of_steps (h1 stepR_scope) ⟨fun k' hk => harr.1 k' (by simp [exitTo, hk]), fun hr' hk => harr.2 hr' (by simp [exitTo, hk])⟩⟩
  | goto l => exact absurd rfl (hg l)
  | ret => exact ⟨_, a₁, w₁, hq, .of_steps (h1 stepR_scope) harr⟩
  | panic ch => exact ⟨_, a₁, w₁, hq, .of_steps (h1 stepR_scope) harr⟩
  | outgrown => exact ⟨_, a₁, w₁, hq, .of_steps (h1 stepR_scope) harr⟩
theorem awp_sound (ht : TabOk P tab) : ∀ (c : Code) (Qa : Ex → St → Prop) (s : St), awp (std P n₀) tab c Qa s → CodeA P n₀ c Qa s := by
  intro c
  induction c with
  | skip => exact fun Qa s h rd ρ a w hn _ hs => wpIn_skip ⟨.normal, s, ρ, h, rfl, hs, StpN.refl' hn⟩
  | label l => exact fun Qa s h rd ρ a w hn _ hs => wpIn_label ⟨.normal, s, ρ, h, rfl, hs, StpN.refl' hn⟩
  | exit id => exact fun Qa s h rd ρ a w hn _ hs => wpIn_exit ⟨.exit id, s, ρ, h, rfl, hs, StpN.refl' hn⟩
  | ret => exact fun Qa s h rd ρ a w hn _ hs => wpIn_ret ⟨.ret, s, ρ, h, rfl, hs, StpN.refl' hn⟩
  | goto l => exact fun Qa s h => h.elim
  | refuse y => exact fun Qa s h => h.elim
  | loop c _ => exact fun Qa s h => h
  | rangeFunc f ps a c _ _ => exact fun Qa s h => h
  | region id ops draw =>
    cases draw with
    | true =>
      intro Qa s h
      simp only [awp] at h
      by_cases hF : CodeA P n₀ (.region id ops true) Qa s
      · exact hF
      · intro rd ρ a w hn hrd hs
        exact draw_sound ht hF h hs fun f ρ' a' w' hf hr hst => ⟨.normal, f, ρ', hf, rfl, hr, hst.le hn⟩
    | false =>
      intro Qa s h rd ρ a w hn hrd hs
      refine wpIn_region ?_
      have := aops_sound (rd := rd) (Q := Post n₀ ρ s.hp w Qa) ht (ops := ops) ops.toList 0 (by simp) h hs ⟨fun s' ρ' a' w' hk _ hr hst => ⟨.normal, s', ρ', hk, rfl, hr, hst.le hn⟩,
        fun x v ρ' σ' w' a' hx hv hst hr hsz hdf => ⟨.pan x, ⟨[], σ', s.n⟩, ρ', hx, ⟨v, rfl, hv⟩, ⟨hdf, hsz, hr, fun t => Val.junk⟩, hst.le hn⟩⟩
      rw [List.range_eq_range']
      simpa using this
  | seq x y ihx ihy =>
    intro Qa s h rd ρ a w hn hrd hs
    refine wpIn_seq (wpIn_mono (ihx _ s h rd ρ a w hn hrd hs) ?_)
    rintro e a1 w1 ⟨x1, s1, ρ1, hq, hx, hr, hst⟩
    cases x1 with
    | normal =>
      simp only [exOk] at hx; subst hx
      exact wpIn_mono (ihy _ s1 hq rd ρ1 a1 w1 hst.len (hrd.step hst) hr) (fun e a' w' h => seq_post hst h)
    | exit i => simp only [exOk] at hx; subst hx; exact ⟨.exit i, s1, ρ1, hq, rfl, hr, hst⟩
    | ret => simp only [exOk] at hx; subst hx; exact ⟨.ret, s1, ρ1, hq, rfl, hr, hst⟩
    | pan x => obtain ⟨v, rfl, hv⟩ := hx; exact ⟨.pan x, s1, ρ1, hq, ⟨v, rfl, hv⟩, hr, hst⟩
  | cond c x y ihx ihy =>
    intro Qa s h rd ρ a w hn hrd hs
    have hc := ev_val hs c
    simp only [awp] at h
    split at h
    · rename_i e; rw [e] at hc
      exact wpIn_cond (t := true) (val_bl hc) (ihx _ s h rd ρ a w hn hrd hs)
    · rename_i e; rw [e] at hc
      exact wpIn_cond (t := false) (val_bl hc) (ihy _ s h rd ρ a w hn hrd hs)
    · rename_i t e; rw [e] at hc
      cases t with
      | true => exact wpIn_cond (t := true) (val_bool hc) (ihx _ s (h.1 rfl) rd ρ a w hn hrd hs)
      | false => exact wpIn_cond (t := false) (val_bool hc) (ihy _ s (h.2 rfl) rd ρ a w hn hrd hs)
    · exact h.elim
  | block id c ih =>
    intro Qa s h rd ρ a w hn hrd hs
    refine wpIn_block (wpIn_mono (ih _ s h rd ρ a w hn hrd hs) ?_)
    rintro e a1 w1 ⟨x1, s1, ρ1, hq, hx, hr, hst⟩
    cases x1 with
    | normal => simp only [exOk] at hx; subst hx; exact ⟨.normal, s1, ρ1, hq, rfl, hr, hst⟩
    | exit i =>
      simp only [exOk] at hx; subst hx
      simp only [Exit.inBlock]
      rcases ex_block hq with ⟨he, hq'⟩ | ⟨hne, hq'⟩
      · rw [if_pos he]; exact ⟨.normal, s1, ρ1, hq', rfl, hr, hst⟩
      · rw [if_neg hne]; exact ⟨.exit i, s1, ρ1, hq', rfl, hr, hst⟩
    | ret => simp only [exOk] at hx; subst hx; exact ⟨.ret, s1, ρ1, hq, rfl, hr, hst⟩
    | pan x => obtain ⟨v, rfl, hv⟩ := hx; exact ⟨.pan x, s1, ρ1, hq, ⟨v, rfl, hv⟩, hr, hst⟩
  | scope c ih =>
    intro Qa s h rd ρ a w hn hrd hs
    refine wpIn_scope (wpIn_mono (ih Qa s h rd ρ a w hn hrd hs) ?_)
    rintro e a1 w1 ⟨x1, s1, ρ1, hq, hx, hr, hst⟩
    refine ⟨fun l hc => ?_, x1, s1, ρ1, hq, hx, hr, hst⟩
    subst hc
    cases x1 with
    | normal => simp [exOk] at hx
    | exit i => simp [exOk] at hx
    | ret => simp [exOk] at hx
    | pan v => obtain ⟨_, h, _⟩ := hx; simp at h
end
end Go.Pt
namespace Go.Pt
open Go
section
variable {P : Program} {n₀ : Nat} {tab : Nat → Ty} {w : World} {ρ : Ro}
theorem wk_val {S : Nat → Nat → Prop} {n _m : Nat} {a b : AV} {v : Value} (h : wk a b) (hv : Val w S ρ n a v) : Val w S ρ n b v := by
  unfold wk at h
  split at h
  · exact Val.junk
  · split at h
    · obtain ⟨rfl, rfl⟩ := h
      obtain ⟨ad, len, cap, rfl, h1, h2, _, h4⟩ := val_sl hv
      exact val_sl_mk h1 h2 trivial h4
    · subst h
      rw [val_nils hv]
      exact val_sl_mk rfl (Nat.le_refl _) trivial (fun h => absurd rfl h)
    · exact h.elim
  · split at h
    · obtain ⟨rfl, rfl⟩ := h; exact hv
    · subst h
      rw [val_nils hv]
      exact val_sl_mk rfl (Nat.le_refl _) rfl (fun h => absurd rfl h)
    · exact h.elim
  · split at h
    · subst h; exact hv
    · subst h; rw [val_bl hv]; exact ⟨1, rfl⟩
    · exact h.elim
  · subst h; exact hv
theorem okV_val {S : Nat → Nat → Prop} {n m : Nat} : ∀ (k : Nat) {d : Nat} {a : AV} {v : Value}, okV m k a = true → Cz w S ρ d n a v → Cz w S ρ d m a v
  | 0, d, a, v, h, _ => by simp [okV] at h
  | k + 1, 0, a, v, _, hv => hv.elim
  | k + 1, d + 1, a, v, h, hv => by
    have all : ∀ {cs : List AV} {vs : List Value}, cs.all (okV m k) = true → All2 (Cz w S ρ d n) cs vs → All2 (Cz w S ρ d m) cs vs := by
      intro cs vs hc hl
      exact hl.imp_mem fun x hx y hy => okV_val k (List.all_eq_true.1 hc x hx) hy
    cases a with
    | agg cs => obtain ⟨vs, e, hv⟩ := hv; exact ⟨vs, e, all h hv⟩
    | tup cs => obtain ⟨vs, e, hv⟩ := hv; exact ⟨vs, e, all h hv⟩
    | func f cs => obtain ⟨vs, e, hv⟩ := hv; exact ⟨vs, e, all h hv⟩
    | iface t x => obtain ⟨u, e, hv⟩ := hv; exact ⟨u, e, okV_val k h hv⟩
    | sl s xs t =>
      obtain ⟨ad, len, cap, e, h1, h2, h3, h4⟩ := hv
      refine ⟨ad, len, cap, e, h1, h2, ?_, h4⟩
      cases t with
      | tip i p => exact ⟨by simpa [okV, okT, ltN_eq] using h, h3.2⟩
      | _ => exact h3
    | ms i o s l => exact ⟨by simpa [okV, ltN_eq] using h, hv.2⟩
    | vs i s lo k N => exact ⟨by simpa [okV, ltN_eq] using h, hv.2⟩
    | vp i s k o => exact ⟨by simpa [okV, ltN_eq] using h, hv.2⟩
    | ptr i o => exact ⟨by simpa [okV, ltN_eq] using h, hv.2⟩
    | mp i => exact ⟨by simpa [okV, ltN_eq] using h, hv.2⟩
    | yld i => exact ⟨by simpa [okV, ltN_eq] using h, hv.2⟩
    | cond g x => simp [okV] at h
    | _ => exact hv
theorem wkL_vals {S : Nat → Nat → Prop} {n : Nat} : ∀ {cs cs' : List AV} {vs : List Value}, wkL cs cs' → All2 (Val w S ρ n) cs vs → All2 (Val w S ρ n) cs' vs
  | [], [], _, _, h => h
  | _ :: _, _ :: _, _ :: _, h, hv => ⟨wk_val (_m := 0) h.1 hv.1, wkL_vals h.2 hv.2⟩
  | _ :: _, _ :: _, [], _, hv => hv.elim
  | [], _ :: _, _, h, _ => h.elim
  | _ :: _, [], _, h, _ => h.elim
theorem wkH_get : ∀ {h k : List Ent}, wkH h k → ∀ (i : Nat) f, k[i]? = some f → ∃ e, h[i]? = some e ∧ wkE e f
  | _, [], _, i, f, hi => by simp at hi
  | e :: h, g :: k, hw, 0, f, hi => ⟨e, rfl, by simp at hi; exact hi ▸ hw.1⟩
  | e :: h, g :: k, hw, i + 1, f, hi => by simpa using wkH_get hw.2 i f (by simpa using hi)
  | [], _ :: _, hw, _, _, _ => hw.elim
theorem wkH_len : ∀ {h k : List Ent}, wkH h k → k.length ≤ h.length
  | _, [], _ => by simp
  | _ :: h, _ :: k, hw => by simp [wkH_len hw.2]
  | [], _ :: _, hw => hw.elim
theorem own_wk {σ τ : List Ent} (hw : wkH σ τ) {b o : Nat} (h : Own ρ τ b o) : Own ρ σ b o := by
  obtain ⟨i, f, hi, ho⟩ := h
  obtain ⟨e, he, hwe⟩ := wkH_get hw i f hi
  refine ⟨i, e, he, ?_⟩
  cases f <;> simp only [wkE] at hwe <;> cases e <;> first | exact ho | exact hwe.elim | exact ho.elim | (obtain ⟨rfl, rfl⟩ := hwe; exact ho) | cases hwe
theorem look_mem {e : List (Nat × AV)} {t : Nat} : look e t = .junk ∨ ∃ k, (k, look e t) ∈ e := by
  induction e with
  | nil => left; rfl
  | cons x e ih =>
    obtain ⟨k, v⟩ := x
    simp only [look]
    split
    · exact .inr ⟨k, by simp⟩
    · rcases ih with h | ⟨k', h⟩
      · exact .inl h
      · exact .inr ⟨k', by simp [h]⟩
theorem wkEnv_look {e : List (Nat × AV)} {t : Nat} : ∀ {f : List (Nat × AV)}, wkEnv e f → wk (look e t) (look f t)
  | [], _ => trivial
  | (k, v) :: f, h => by
    simp only [look]
    split
    · rename_i hb
      rw [← beN_t hb]; exact h.1
    · exact wkEnv_look h.2
theorem Le.rel {s t : St} {a : Act} (h : Le s t) (hs : RelS ρ s a w) : RelS ρ t a w ∧ ∀ n₀, n₀ ≤ t.hp.length → StpN n₀ ρ s.hp w ρ t.hp w := by
  obtain ⟨h1, h2, h3, h4⟩ := h
  simp only [okS, Bool.and_eq_true, List.all_eq_true, lenN_eq] at h3
  obtain ⟨h3, h3'⟩ := h3
  have hS : ∀ b o, Stay ρ s.hp b o → Stay ρ t.hp b o := fun b o hb => ⟨fun ho => hb.1 (own_wk h2 ho), hb.2⟩
  have hlen := wkH_len h2
  have kp : ∀ {n : Nat}, Keeps w w (Stay ρ s.hp) (Stay ρ t.hp) ρ ρ n n := ⟨fun b o u hb hc => ⟨hS b o hb, hc⟩, Nat.le_refl _, fun _ _ => rfl, fun _ _ => .inl rfl, .refl _⟩
  have val : ∀ {a : AV} {v : Value}, okV t.hp.length 6 a = true → Val w (Stay ρ s.hp) ρ s.hp.length a v → Val w (Stay ρ t.hp) ρ t.hp.length a v := by
    rintro a v ho ⟨d, hv⟩
    exact ⟨d, okV_val 6 ho (Cz.keep d kp a v hv)⟩
  refine ⟨⟨hs.defers, hs.size.trans h4, ⟨fun i f hi => ?_, fun i j f g b o hi hj hf hg => ?_, hs.rel.xlt, fun b o ho => hs.rel.xown b o (own_wk h2 ho), hs.rel.gok⟩, fun k => ?_⟩, fun n₀ hn => ?_⟩
  · obtain ⟨e, he, hwe⟩ := wkH_get h2 i f hi
    have hok := h3' f (List.mem_of_getElem? hi)
    have hent := hs.rel.ents i e he
    cases f with
    | dead => trivial
    | var cs' =>
      cases e <;> simp only [wkE] at hwe
      obtain ⟨vs, ty, hv, hb⟩ := hent
      refine ⟨vs, ty, ?_, hb⟩
      exact (wkL_vals hwe hv).imp_mem fun x hx y hy => val (List.all_eq_true.1 hok x hx) hy
    | tip p =>
      cases e <;> simp only [wkE] at hwe
      subst hwe; exact hent
    | vec s xs =>
      cases e <;> simp only [wkE] at hwe
      obtain ⟨rfl, rfl⟩ := hwe
      obtain ⟨q1, q2, q3, q4⟩ := hent
      exact ⟨q1, q2, q3, fun k x hx => let ⟨vs, a1, a2, a3⟩ := q4 k x hx; ⟨vs, a1.imp fun _ _ h => h.keep kp, a2, a3⟩⟩
    | fam u os =>
      cases e <;> simp only [wkE] at hwe
      obtain ⟨rfl, rfl⟩ := hwe
      obtain ⟨q0, q1, q2⟩ := hent
      exact ⟨q0, q1, fun j x hx => let ⟨vs, ty, a1, a2⟩ := q2 j x hx; ⟨vs, ty, a1.imp fun _ _ h => h.keep kp, a2⟩⟩
    | mp es =>
      cases e <;> simp only [wkE] at hwe
      subst hwe
      obtain ⟨ms, c, hb, hv, hr⟩ := hent
      exact ⟨ms, c, hb, hv.imp fun _ _ h => ⟨h.1.keep kp, h.2.keep kp⟩, hr⟩
    | lp ps asg body env k st pe =>
      simp only [wkE] at hwe
      subst hwe
      obtain ⟨r, g1, g2, g3, g4, g5, g6, g7, g8⟩ := hent
      refine ⟨r, g1, g2, g3, g4, g5, g6, g7, fun u => ?_⟩
      rcases look_mem (e := env) (t := u) with hj | ⟨k', hk⟩
      · rw [hj]; exact Val.junk
      · exact val (List.all_eq_true.1 hok _ hk) (g8 u)
  · obtain ⟨e, he, hwe⟩ := wkH_get h2 i f hi
    obtain ⟨e', he', hwe'⟩ := wkH_get h2 j g hj
    have conv : ∀ {i : Nat} {e f : Ent}, wkE e f → OwnE ρ i b o f → OwnE ρ i b o e := by
      intro i e f hwe ho
      cases f <;> simp only [wkE] at hwe <;> cases e <;> first | exact ho | exact hwe.elim | exact ho.elim | (obtain ⟨rfl, rfl⟩ := hwe; exact ho) | cases hwe
    exact hs.rel.disj i j e e' b o he he' (conv hwe hf) (conv hwe' hg)
  · have hv := wk_val (_m := 0) (wkEnv_look h1) (hs.vals k)
    rcases look_mem (e := t.env) (t := k) with hj | ⟨k', hk⟩
    · rw [hj]; exact Val.junk
    · exact val (h3 _ hk) hv
  · exact ⟨rfl, rfl, rfl, Nat.le_refl _, fun b ob hb => ⟨ob, hb, okBlk.refl _ _⟩, fun b o _ ho => own_wk h2 ho, hn, fun _ _ => rfl, fun _ _ => .inl rfl, rfl, rfl, .of fun i t' os hi => by
      obtain ⟨e, he, hwe⟩ := wkH_get h2 i _ hi
      cases e <;> simp only [wkE] at hwe
      obtain ⟨rfl, rfl⟩ := hwe
      exact ⟨i, _, he⟩⟩
theorem post_mono {σ : List Ent} {Qa Qb : Ex → St → Prop} (h : ∀ x s, Qa x s → Qb x s) {e : Exit} {a : Act} {w' : World} (hp : Post n₀ ρ σ w Qa e a w') : Post n₀ ρ σ w Qb e a w' := by
  obtain ⟨x, s', ρ', h1, h2⟩ := hp
  exact ⟨x, s', ρ', h x s' h1, h2⟩
theorem code_le {c : Code} {Q : Ex → St → Prop} {s t : St} (h : Le s t) (hn : n₀ ≤ t.hp.length) (hc : CodeA P n₀ c Q t) : CodeA P n₀ c Q s := by
  intro rd ρ a w _ hrd hs
  obtain ⟨hr, hst⟩ := h.rel hs
  exact wpIn_mono (hc rd ρ a w hn hrd hr) fun e a' w' hp => seq_post (hst n₀ hn) hp
theorem code_loop {c : Code} {Q : Ex → St → Prop} {s : St} {β : Type} (T : β → St) (inv : β → Prop) (μ : β → Nat) (b0 : β) (h0 : inv b0) (hle : Le s (T b0)) (hn : ∀ b, n₀ ≤ (T b).hp.length)
    (round : ∀ b, inv b → CodeA P n₀ c (thenQ (fun s' => ∃ b', inv b' ∧ μ b' < μ b ∧ Le s' (T b')) Q) (T b)) : CodeA P n₀ (.loop c) Q s := by
  have key : ∀ n (bb : β), μ bb = n → inv bb → ∀ rd ρ a w, IsRound rd w → RelS ρ (T bb) a w → ∀ (b : Frame) (k : List Item) (cs : List Frame), b.roundOf = rd →
      ∃ e a' w', Post n₀ ρ (T bb).hp w Q e a' w' ∧ ArrivesIn (Machine.fenced P (fen rd)) P (lone (b.atR a (.code c :: .inLoop c :: k)) cs w) b k cs e a' w' := by
    intro n
    induction n using Nat.strongRecOn with
    | _ n ih =>
      intro bb hμ hinv rd ρ a w hrd hr b k cs hro
      have room : ∀ m, (fen rd).room m := fun m d hd => by simp [Fence.wide] at hd
      obtain ⟨e, a₁, w₁, ⟨x1, s1, ρ1, hq, hx, hr1, hst⟩, harr⟩ := round bb hinv rd ρ a w (hn bb) hrd hr b (.inLoop c :: k) cs hro trivial (room _)
      cases x1 with
      | normal =>
        simp only [exOk] at hx; subst hx
        obtain ⟨b', hinv', hlt, hle'⟩ := hq
        obtain ⟨hr', hst'⟩ := hle'.rel hr1
        obtain ⟨e₂, a₂, w₂, hq₂, harr₂⟩ := ih (μ b') (hμ ▸ hlt) b' rfl hinv' rd ρ1 a₁ w₁ (hrd.step hst) hr' b k cs hro
        exact ⟨e₂, a₂, w₂, seq_post (hst.trans (hst' n₀ (hn b')) (Nat.le_refl _)) hq₂, .of_steps (StepsIn.trans harr (.one (fenced_calm (n := 0) trivial (room _) rfl) stepR_inLoop)) harr₂⟩
      | exit i => simp only [exOk] at hx; subst hx; exact ⟨_, a₁, w₁, ⟨.exit i, s1, ρ1, hq, rfl, hr1, hst⟩, .pass (x := .inLoop c) rfl (fun _ _ => .inl (by simp)) harr⟩
      | ret => simp only [exOk] at hx; subst hx; exact ⟨_, a₁, w₁, ⟨.ret, s1, ρ1, hq, rfl, hr1, hst⟩, .pass (x := .inLoop c) rfl (fun _ _ => .inl (by simp)) harr⟩
      | pan x => obtain ⟨v, rfl, hv⟩ := hx; exact ⟨_, a₁, w₁, ⟨.pan x, s1, ρ1, hq, ⟨v, rfl, hv⟩, hr1, hst⟩, .pass (x := .inLoop c) rfl (fun _ _ => .inl (by simp)) harr⟩
  refine code_le hle (hn b0) ?_
  intro rd ρ a w _ hrd hr b k cs hro hb hroom
  obtain ⟨e, a', w', hq, harr⟩ := key _ b0 rfl h0 rd ρ a w hrd hr b k cs hro
  exact ⟨e, a', w', hq, .of_steps (.one (fenced_calm (n := 0) hb hroom rfl) stepR_loop) harr⟩
theorem loop_at {J : Jd} (hJ : J = std P n₀) (ht : TabOk P tab) {c : Code} {Q : Ex → St → Prop} {s : St} {β : Type} (T : β → St) (inv : β → Prop) (μ : β → Nat) (b0 : β) (h0 : inv b0) (hle : Le s (T b0)) (hn : ∀ b, n₀ ≤ (T b).hp.length)
    (round : ∀ b, inv b → ∀ N : St → Prop, (∀ s' b', inv b' → μ b' < μ b → Le s' (T b') → N s') → awp J tab c (thenQ N Q) (T b)) : J.code (.loop c) Q s := by
  subst hJ
  exact code_loop T inv μ b0 h0 hle hn fun b hb => awp_sound ht _ _ _ (round b hb _ fun s' b' h1 h2 h3 => ⟨b', h1, h2, h3⟩)
end
end Go.Pt
namespace Go.Pt
open Go
section
variable {P : Program} {n₀ : Nat} {tab : Nat → Ty} {w : World} {ρ : Ro}
theorem idx_some : ∀ {l : List Nat} {i j : Nat}, idx l i = some j → l[j]? = some i
  | [], _, _, h => by simp [idx] at h
  | x :: l, i, j, h => by
    simp only [idx] at h
    split at h
    · rename_i e
      simp only [Option.some.injEq] at h; subst h
      simp [beN_t e]
    · split at h
      · rename_i k hk
        simp only [Option.some.injEq] at h; subst h
        simpa using idx_some hk
      · simp at h
theorem idx_none : ∀ {l : List Nat} {i : Nat}, idx l i = none → i ∉ l
  | [], _, _ => by simp
  | x :: l, i, h => by
    simp only [idx] at h
    split at h
    · simp at h
    · rename_i e
      split at h
      · simp at h
      · rename_i hk
        have := idx_none hk
        simp only [List.mem_cons, not_or]
        exact ⟨fun he => by subst he; simp at e, this⟩
theorem idx_of_nodup : ∀ {l : List Nat} {i j : Nat}, l.Nodup → l[j]? = some i → idx l i = some j
  | [], _, _, _, h => by simp at h
  | x :: l, i, 0, hn, h => by simp at h; subst h; simp [idx]
  | x :: l, i, j + 1, hn, h => by
    have hn' := List.nodup_cons.1 hn
    have h' : l[j]? = some i := by simpa using h
    have hne : x ≠ i := fun e => by subst e; exact hn'.1 (List.mem_of_getElem? h')
    simp only [idx]
    split
    · rename_i e; exact absurd (beN_t e) hne
    · rw [idx_of_nodup hn'.2 h']
structure RenOk (g : Nat → Option Nat) (ρ ρ' : Ro) (n n' : Nat) : Prop where
  lt : ∀ i j, i < n → g i = some j → j < n'
  b : ∀ i j, i < n → g i = some j → ρ'.b j = ρ.b i
  t : ∀ i j, i < n → g i = some j → ρ'.t j = ρ.t i
  g : ρ'.g = ρ.g
theorem ren_val {S S' : Nat → Nat → Prop} {ρ' : Ro} {n n' : Nat} {g : Nat → Option Nat} (hg : RenOk g ρ ρ' n n') (hS : ∀ b o u, S b o → cellAt w b o = some u → S' b o) : ∀ (k : Nat) {d : Nat} {a : AV} {v : Value}, Cz w S ρ d n a v → Val w S' ρ' n' (ren g k a) v
  | 0, _, _, _, _ => Val.junk
  | k + 1, 0, _, _, h => h.elim
  | k + 1, d + 1, a, v, h => by
    have all : ∀ {cs : List AV} {vs : List Value}, All2 (Cz w S ρ d n) cs vs → All2 (Val w S' ρ' n') (cs.map (ren g k)) vs := by
      intro cs
      induction cs with
      | nil => intro vs h; cases vs <;> simp [All2] at h ⊢
      | cons c cs ih => intro vs h; cases vs with
        | nil => exact h.elim
        | cons v vs => exact ⟨ren_val hg hS k h.1, ih h.2⟩
    have kz : Keeps w w S S' ρ ρ' 0 0 := ⟨fun b o u h1 h2 => ⟨hS b o u h1 h2, h2⟩, Nat.le_refl _, fun i hi => by omega, fun i hi => by omega, by rw [hg.g]; exact .refl _⟩
    cases a with
    | agg cs => obtain ⟨vs, e, h⟩ := h; obtain ⟨d', h'⟩ := all2_depth (all h); exact ⟨d' + 1, vs, e, h'⟩
    | tup cs => obtain ⟨vs, e, h⟩ := h; obtain ⟨d', h'⟩ := all2_depth (all h); exact ⟨d' + 1, vs, e, h'⟩
    | func f cs => obtain ⟨vs, e, h⟩ := h; obtain ⟨d', h'⟩ := all2_depth (all h); exact ⟨d' + 1, vs, e, h'⟩
    | iface t x => obtain ⟨u, e, h⟩ := h; obtain ⟨d', h'⟩ := ren_val hg hS k h; exact ⟨d' + 1, u, e, h'⟩
    | sl s xs t =>
      obtain ⟨ad, len, cap, e, h1, h2, h3, h4⟩ := h
      refine ⟨d + 1, ad, len, cap, e, h1, h2, ?_, fun hx => ?_⟩
      · cases t with
        | no => trivial
        | full => exact h3
        | tip i p =>
          simp only [renT]
          split
          · rename_i j hj
            exact ⟨hg.lt i j h3.1 hj, by rw [hg.t i j h3.1 hj]; exact h3.2⟩
          · trivial
      · obtain ⟨b, o, e, h⟩ := h4 hx
        exact ⟨b, o, e, fun i x hi => let ⟨vs, a1, a2, a3⟩ := h i x hi; ⟨vs, a1.imp (Cz.keep d kz), a2, a3.keep kz.rd⟩⟩
    | cptr cs o => obtain ⟨b, o', vs, e, h1, h2⟩ := h; exact ⟨d + 1, b, o', vs, e, h1.imp (Cz.keep d kz), h2.keep kz.rd⟩
    | ms i o s l =>
      simp only [ren]
      split
      · rename_i j hj
        exact ⟨1, hg.lt i j h.1 hj, by rw [hg.b i j h.1 hj]; exact h.2⟩
      · exact Val.junk
    | vs i s lo k N =>
      simp only [ren]
      split
      · rename_i j hj
        exact ⟨1, hg.lt i j h.1 hj, by rw [hg.t i j h.1 hj]; exact h.2⟩
      · exact Val.junk
    | vp i s k o =>
      simp only [ren]
      split
      · rename_i j hj
        exact ⟨1, hg.lt i j h.1 hj, by rw [hg.t i j h.1 hj]; exact h.2⟩
      · exact Val.junk
    | ptr i o =>
      simp only [ren]
      split
      · rename_i j hj
        exact ⟨1, hg.lt i j h.1 hj, by rw [hg.b i j h.1 hj]; exact h.2⟩
      · exact Val.junk
    | mp i =>
      simp only [ren]
      split
      · rename_i j hj
        exact ⟨1, hg.lt i j h.1 hj, by rw [hg.b i j h.1 hj]; exact h.2⟩
      · exact Val.junk
    | yld i =>
      simp only [ren]
      split
      · rename_i j hj
        exact ⟨1, hg.lt i j h.1 hj, by rw [hg.b i j h.1 hj]; exact h.2⟩
      · exact Val.junk
    | cond g x => exact Val.junk
    | fp u k' o => obtain ⟨j, e1, e2, e3⟩ := h; exact ⟨1, j, e1, by rw [hg.g]; exact e2, by rw [hg.g]; exact e3⟩
    | _ => exact ⟨d + 1, h⟩
theorem ren_vals {S S' : Nat → Nat → Prop} {ρ' : Ro} {n n' : Nat} {g : Nat → Option Nat} (hg : RenOk g ρ ρ' n n') (hS : ∀ b o u, S b o → cellAt w b o = some u → S' b o) (k : Nat) : ∀ {cs : List AV} {vs : List Value}, All2 (Val w S ρ n) cs vs → All2 (Val w S' ρ' n') (cs.map (ren g k)) vs
  | [], [], _ => trivial
  | _ :: _, _ :: _, h => ⟨ren_val hg hS k h.1.choose_spec, ren_vals hg hS k h.2⟩
  | [], _ :: _, h => h.elim
  | _ :: _, [], h => h.elim
theorem look_ren {g : Nat → Option Nat} {t : Nat} : ∀ (env : List (Nat × AV)), look (env.map fun x => (x.1, ren g 6 x.2)) t = ren g 6 (look env t)
  | [] => rfl
  | (k, v) :: env => by
    simp only [List.map_cons, look]
    split
    · rfl
    · exact look_ren env
theorem renE_ok {S S' : Nat → Nat → Prop} {ρ' : Ro} {n n' i j : Nat} {g : Nat → Option Nat} (hg : RenOk g ρ ρ' n n') (hS : ∀ b o u, S b o → cellAt w b o = some u → S' b o) {e : Ent} (h : EntOk w S ρ n i e) (hb : ρ'.b j = ρ.b i) (ht : ρ'.t j = ρ.t i) (hj : g i = some j) :
    EntOk w S' ρ' n' j (renE g e) := by
  cases e with
  | var cs => obtain ⟨vs, ty, h1, h2⟩ := h; exact ⟨vs, ty, ren_vals hg hS 6 h1, by rw [hb]; exact h2⟩
  | tip p => simp only [renE, EntOk, ht]; exact h
  | vec s xs =>
    have kz : Keeps w w S S' ρ ρ' 0 0 := ⟨fun b o u h1 h2 => ⟨hS b o u h1 h2, h2⟩, Nat.le_refl _, fun i hi => by omega, fun i hi => by omega, by rw [hg.g]; exact .refl _⟩
    simp only [renE, EntOk, ht]
    obtain ⟨q1, q2, q3, q4⟩ := h
    exact ⟨q1, q2, q3, fun k x hx => let ⟨vs, a1, a2, a3⟩ := q4 k x hx; ⟨vs, a1.imp fun _ _ h => h.keep kz, a2, a3⟩⟩
  | fam u os =>
    have kz : Keeps w w S S' ρ ρ' 0 0 := ⟨fun b o u h1 h2 => ⟨hS b o u h1 h2, h2⟩, Nat.le_refl _, fun i hi => by omega, fun i hi => by omega, by rw [hg.g]; exact .refl _⟩
    obtain ⟨rfl, q1, q2⟩ := h
    simp only [renE, hj]
    split
    · rename_i e
      have := beN_t e; subst this
      exact ⟨rfl, by rw [hg.g]; exact q1, fun k x hx => let ⟨vs, ty, a1, a2⟩ := q2 k x hx; ⟨vs, ty, a1.imp fun _ _ h => h.keep kz, by rw [hg.g]; exact a2⟩⟩
    · trivial
  | mp es =>
    have kz : Keeps w w S S' ρ ρ' 0 0 := ⟨fun b o u h1 h2 => ⟨hS b o u h1 h2, h2⟩, Nat.le_refl _, fun i hi => by omega, fun i hi => by omega, by rw [hg.g]; exact .refl _⟩
    obtain ⟨ms, c, h1, h2, h3⟩ := h
    exact ⟨ms, c, by rw [hb]; exact h1, h2.imp fun _ _ h => ⟨h.1.keep kz, h.2.keep kz⟩, h3⟩
  | lp ps asg body env k st pe =>
    obtain ⟨r, g1, g2, g3, g4, g5, g6, g7, g8⟩ := h
    exact ⟨r, by rw [hb]; exact g1, g2, g3, g4, g5, g6, g7, fun u => by rw [look_ren]; exact ren_val hg hS 6 (g8 u).choose_spec⟩
  | dead => trivial
theorem renE_own {ρ' : Ro} {i j b o : Nat} {g : Nat → Option Nat} {e : Ent} (h : OwnE ρ' j b o (renE g e)) (hb : ρ'.b j = ρ.b i) (ht : ρ'.t j = ρ.t i) (hg : ρ'.g = ρ.g) : OwnE ρ i b o e := by
  cases e with
  | fam u os =>
    simp only [renE] at h
    split at h
    · split at h
      · simpa [OwnE, hg] using h
      · exact h.elim
    · exact h.elim
  | _ => first | (simp [renE, OwnE, hb, ht] at h; done) | simpa [renE, OwnE, hb, ht] using h
theorem OwnE.le {ρ' : Ro} {i b o : Nat} {e : Ent} (hb : ρ'.b i = ρ.b i) (ht : ρ'.t i = ρ.t i) (hg : FamLe ρ.g ρ'.g) (hn : ∀ t os, e = .fam t os → os.length = ρ.g.n t) : OwnE ρ' i b o e ↔ OwnE ρ i b o e := by
  cases e with
  | fam u os =>
    have hn := hn u os rfl
    simp only [OwnE]
    constructor
    · rintro ⟨j, hj, h⟩; exact ⟨j, hj, by rw [← hg.f u j (by omega)]; exact h⟩
    · rintro ⟨j, hj, h⟩; exact ⟨j, hj, by rw [hg.f u j (by omega)]; exact h⟩
  | _ => simp [OwnE, hb, ht]
theorem renE_fam {g : Nat → Option Nat} {e : Ent} {u : Nat} {os : List AV} (h : renE g e = .fam u os) : e = .fam u os ∧ g u = some u := by
  cases e <;> simp only [renE, reduceCtorEq] at h
  split at h
  · rename_i t' e'
    split at h
    · rename_i hb
      have := beN_t hb; subst this
      cases h; exact ⟨rfl, e'⟩
    · cases h
  · cases h
def Ro.pack (ρ : Ro) (l : List Nat) (x : Nat → Nat → Prop) (m : Nat) : Ro := ⟨fun j => ρ.b (l.getD j 0), fun j => ρ.t (l.getD j 0), x, m, ρ.g⟩
theorem pack_get {l : List Nat} {σ : List Ent} {j : Nat} {e : Ent} (h : (pack l σ)[j]? = some e) : ∃ i, l[j]? = some i ∧ e = renE (idx l) (entOr σ[i]?) := by
  simp only [pack, List.getElem?_map, Option.map_eq_some_iff] at h
  obtain ⟨i, hi, rfl⟩ := h
  exact ⟨i, hi, by rw [nth_eq]⟩
theorem pack_hasfam {l : List Nat} {σ : List Ent} {j u : Nat} {os : List AV} (hj : (pack l σ)[j]? = some (.fam u os)) : HasFam σ u := by
  obtain ⟨i, _, he⟩ := pack_get hj
  have := (renE_fam he.symm).1
  cases h : σ[i]? with
  | none => rw [h] at this; cases this
  | some e => rw [h] at this; exact ⟨i, os, by rw [h, ← this]; rfl⟩
theorem pack_len {l : List Nat} {σ : List Ent} : (pack l σ).length = l.length := by simp [pack]
theorem pack_own {l : List Nat} {σ : List Ent} {x : Nat → Nat → Prop} {m b o : Nat} (h : Own (ρ.pack l x m) (pack l σ) b o) : ∃ i e, i ∈ l ∧ σ[i]? = some e ∧ OwnE ρ i b o e := by
  obtain ⟨j, e, hj, ho⟩ := h
  obtain ⟨i, hi, rfl⟩ := pack_get hj
  replace ho := renE_own (ρ := ρ) (i := i) ho (by simp [Ro.pack, List.getD, hi]) (by simp [Ro.pack, List.getD, hi]) rfl
  cases he : σ[i]? with
  | none => rw [he] at ho; exact ho.elim
  | some e => rw [he] at ho; exact ⟨i, e, List.mem_of_getElem? hi, he, ho⟩
theorem pack_ren {l : List Nat} {n m : Nat} {x : Nat → Nat → Prop} : RenOk (idx l) ρ (ρ.pack l x m) n l.length where
  lt i j _ h := lt_of_get (idx_some h)
  b i j _ h := by simp [Ro.pack, List.getD, idx_some h]
  t i j _ h := by simp [Ro.pack, List.getD, idx_some h]
  g := rfl
theorem rel_pack {σ : List Ent} (h : Rel ρ σ w) {l : List Nat} (hl : l.Nodup) {x : Nat → Nat → Prop} (m : Nat) (hx : ∀ b o, x b o → ρ.x b o ∨ ∃ i e, i ∉ l ∧ σ[i]? = some e ∧ OwnE ρ i b o e) :
    Rel (ρ.pack l x m) (pack l σ) w ∧ ∀ b o, Stay ρ σ b o → Stay (ρ.pack l x m) (pack l σ) b o := by
  have hS : ∀ b o, Stay ρ σ b o → Stay (ρ.pack l x m) (pack l σ) b o := by
    intro b o hs
    refine ⟨fun ho => ?_, fun hxx => ?_⟩
    · obtain ⟨i, e, _, he, ho⟩ := pack_own ho
      exact hs.1 ⟨i, e, he, ho⟩
    · rcases hx b o hxx with h1 | ⟨i, e, _, he, ho⟩
      · exact hs.2 h1
      · exact hs.1 ⟨i, e, he, ho⟩
  refine ⟨⟨fun j e hj => ?_, fun j j' e f b o hj hj' he hf => ?_, fun b o hxx => ?_, fun b o ho hxx => ?_, h.gok⟩, hS⟩
  · obtain ⟨i, hi, rfl⟩ := pack_get hj
    cases he : σ[i]? with
    | none => simp [entOr, renE, EntOk]
    | some e =>
      rw [pack_len]
      exact renE_ok pack_ren (fun b o u h _ => hS b o h) (h.ents i e he) (by simp [Ro.pack, List.getD, hi]) (by simp [Ro.pack, List.getD, hi]) (idx_of_nodup hl hi)
  · obtain ⟨i, hi, rfl⟩ := pack_get hj
    obtain ⟨i', hi', rfl⟩ := pack_get hj'
    replace he := renE_own (ρ := ρ) (i := i) he (by simp [Ro.pack, List.getD, hi]) (by simp [Ro.pack, List.getD, hi]) rfl
    replace hf := renE_own (ρ := ρ) (i := i') hf (by simp [Ro.pack, List.getD, hi']) (by simp [Ro.pack, List.getD, hi']) rfl
    cases h1 : σ[i]? with
    | none => rw [h1] at he; exact he.elim
    | some e1 =>
      cases h2 : σ[i']? with
      | none => rw [h2] at hf; exact hf.elim
      | some e2 =>
        rw [h1] at he; rw [h2] at hf
        have := h.disj i i' e1 e2 b o h1 h2 he hf
        subst this
        exact (List.getElem?_inj (lt_of_get hi) hl).1 (by rw [hi, hi'])
  · rcases hx b o hxx with h1 | ⟨i, e, _, he, ho⟩
    · exact h.xlt b o h1
    · exact own_lt h he ho
  · obtain ⟨i, e, hil, he, ho⟩ := pack_own ho
    rcases hx b o hxx with h1 | ⟨i', e', hil', he', ho'⟩
    · exact h.xown b o ⟨i, e, he, ho⟩ h1
    · have := h.disj i i' e e' b o he he' ho ho'
      subst this; exact hil' hil
theorem rangeN_eq : ∀ n, rangeN n = List.range n
  | 0 => rfl
  | n + 1 => by rw [rangeN, snoc_eq, rangeN_eq n, List.range_succ]
theorem argEnv_look : ∀ (l : List AV) (i t : Nat), look (argEnv i l) t = if i ≤ t then (l[t - i]?).getD .junk else .junk
  | [], i, t => by simp [argEnv, look]
  | a :: l, i, t => by
    simp only [argEnv, look]
    split
    · rename_i h
      have := beN_t h; subst this
      simp
    · rename_i h
      have hne : i ≠ t := fun e => by subst e; simp at h
      rw [argEnv_look l (i + 1) t]
      by_cases hle : i + 1 ≤ t
      · rw [if_pos hle, if_pos (by omega), show t - i = (t - (i + 1)) + 1 by omega]; simp
      · rw [if_neg hle, if_neg (by omega)]
theorem res_sound (ht : TabOk P tab) {s : St} {a : Act} (hs : RelS ρ s a w) : ∀ {rs : List ResultVar} {vs : List AV}, resAll tab s rs = some vs →
    ∃ us, (rs.mapM (fun | .tmp t => pure (a.tmps.getD t undef) | .cell b t => do loadVar t (← asAddr (a.tmps.getD b undef)) : ResultVar → Sem Value)).run P w = .ok us w ∧ All2 (Val w (Stay ρ s.hp) ρ s.hp.length) vs us
  | [], vs, h => by simp [resAll] at h; subst h; exact ⟨[], by simp, trivial⟩
  | r :: rs, vs, h => by
    simp only [resAll] at h
    split at h
    · simp at h
    · rename_i v hv
      split at h
      · simp at h
      · rename_i vs' hvs
        simp only [Option.some.injEq] at h; subst h
        obtain ⟨us, h1, h2⟩ := res_sound ht hs hvs
        have one : ∃ u, ((match r with | .tmp t => pure (a.tmps.getD t undef) | .cell b t => do loadVar t (← asAddr (a.tmps.getD b undef)) : Sem Value)).run P w = .ok u w ∧ Val w (Stay ρ s.hp) ρ s.hp.length v u := by
          cases r with
          | tmp t => simp only [resOne, Option.some.injEq] at hv; subst hv; exact ⟨_, rfl, hs.vals t⟩
          | cell b t =>
            simp only [resOne] at hv
            split at hv
            case h_2 => simp at hv
            rename_i id off e
            have hp := hs.vals b
            rw [e] at hp
            obtain ⟨_, hpv⟩ := val_ptr hp
            rw [nth_eq] at hv
            split at hv
            case h_2 => simp at hv
            rename_i cs hcs
            obtain ⟨vs, ty, h1, h2⟩ := hs.rel.ents id _ hcs
            have hok : (tab t).ok = true := by unfold rd at hv; split at hv <;> simp_all
            obtain ⟨i, d, z, hty⟩ := ht.ok hok
            obtain ⟨u, g1, g2⟩ := run_loadVar_at (P := P) (o := 0) hty (fun j u hu => by rw [Nat.zero_add, cellAt_cells h2]; simpa using hu) h1 hv
            refine ⟨u, ?_, g2⟩
            rw [Nat.zero_add] at g1
            show ((asAddr (a.tmps.getD b undef)) >>= fun d => loadVar t d).run P w = _
            rw [hpv]
            simp [asAddr, g1]
        obtain ⟨u, g1, g2⟩ := one
        refine ⟨u :: us, ?_, g2, h2⟩
        rw [List.mapM_cons]
        simp only [Sem.run_bind, g1, Result.andThen_ok, h1, Sem.run_pure]
theorem resOf_sound (ht : TabOk P tab) {s : St} {a : Act} (hs : RelS ρ s a w) {fn : Func} {v : AV} (h : resOf tab s fn.results.toList = some v) :
    ∃ u, (results fn a.tmps).run P w = .ok u w ∧ Val w (Stay ρ s.hp) ρ s.hp.length v u := by
  unfold resOf at h
  have key : ∀ {vs : List AV}, resAll tab s fn.results.toList = some vs → ∃ us : List Value, (results fn a.tmps).run P w = .ok (if h : us.toArray.size = 1 then us.toArray[0] else .tuple us.toArray) w ∧ All2 (Val w (Stay ρ s.hp) ρ s.hp.length) vs us := by
    intro vs hvs
    obtain ⟨us, h1, h2⟩ := res_sound ht hs hvs
    refine ⟨us, ?_, h2⟩
    unfold results
    rw [Array.mapM_eq_mapM_toList]
    simp only [Sem.run_bind, Sem.run_map]
    erw [h1]
    rfl
  split at h
  · simp at h
  · rename_i v' hvs
    simp only [Option.some.injEq] at h; subst h
    obtain ⟨us, h1, h2⟩ := key hvs
    match us, h2 with
    | [u], h2 => exact ⟨u, by simpa using h1, h2.1⟩
  · rename_i vs hne hvs
    simp only [Option.some.injEq] at h; subst h
    obtain ⟨us, h1, h2⟩ := key hvs
    have hl := h2.length
    have h1' : ¬ us.toArray.size = 1 := by
      intro e
      simp only [List.size_toArray] at e
      rw [e] at hl
      match vs, hl with
      | [x], _ => exact hne x rfl
    rw [dif_neg h1'] at h1
    obtain ⟨d, hd⟩ := all2_depth h2
    exact ⟨_, h1, d + 1, us, rfl, hd⟩
theorem rangeN_get {n i : Nat} (h : i < n) (l : List Nat) : (rangeN n ++ l)[i]? = some i := by
  rw [rangeN_eq, List.getElem?_append_left (by simpa using h)]; simp [h]
theorem pack_step {σ τ : List Ent} {w' : World} {ρ' : Ro} {l : List Nat} (hst : StpN σ.length ρ σ w ρ' τ w') (hlen : σ.length ≤ l.length) (hid : ∀ i, i < σ.length → l[i]? = some i) :
    Stp ρ σ w (ρ'.pack l ρ'.x ρ.m) (pack l τ) w' :=
  ⟨hst.os, hst.tape, hst.output, hst.size, hst.frm, fun b o hb ho => hst.own b o hb (let ⟨i, e, _, he, ho'⟩ := pack_own ho; ⟨i, e, he, ho'⟩), by rw [pack_len]; exact hlen,
   fun i hi => by simp [Ro.pack, List.getD, hid i hi, hst.rb i hi], fun i hi => by simpa [Ro.pack, List.getD, hid i hi] using hst.rt i hi, hst.rx, rfl,
   hst.rg.trans (.of fun j u os hj => pack_hasfam hj)⟩
theorem via_eq {v : AV} {K : AV → Prop} : via v K ↔ K v := by cases v <;> exact Iff.rfl
theorem viaL_eq {α : Type} {l : List α} {K : List α → Prop} : viaL l K ↔ K l := by cases l <;> exact Iff.rfl
theorem retQ_ret {rs : List ResultVar} {kl : List Nat} {K E : AV → List Ent → Prop} {s : St} (h : retQ tab rs kl K E .ret s ∨ retQ tab rs kl K E .normal s) : match resOf tab s rs with | some r => K (ren (idx kl) 9 r) (pack kl s.hp) | none => False := by
  have h' : match resOf tab s rs with | some r => via (ren (idx kl) 9 r) fun r => viaL (pack kl s.hp) fun h => K r h | none => False := h.elim id id
  split at h'
  · exact viaL_eq.1 (via_eq.1 h')
  · exact h'
def Ro.floor (ρ : Ro) (m : Nat) : Ro := ⟨ρ.b, ρ.t, ρ.x, m, ρ.g⟩
theorem floor_own {σ : List Ent} {m b o : Nat} : Own (ρ.floor m) σ b o ↔ Own ρ σ b o := by
  constructor <;> rintro ⟨i, e, hi, ho⟩ <;> exact ⟨i, e, hi, (OwnE.congr (by rfl) (by rfl) (by rfl)).1 ho⟩
theorem floor_keeps {σ : List Ent} {m : Nat} : Keeps w w (Stay ρ σ) (Stay (ρ.floor m) σ) ρ (ρ.floor m) σ.length σ.length :=
  ⟨fun _b _o _u h hc => ⟨⟨fun ho => h.1 (floor_own.1 ho), h.2⟩, hc⟩, Nat.le_refl _, fun _ _ => rfl, fun _ _ => .inl rfl, .refl _⟩
theorem floor_rel {σ : List Ent} {m : Nat} (h : Rel ρ σ w) : Rel (ρ.floor m) σ w :=
  ⟨fun i e hi => (h.ents i e hi).keep floor_keeps (lt_of_get hi) rfl (fun _ => rfl) (fun _ _ c e f hc => ⟨c, hc, rfl, fun _ _ _ => rfl⟩) (fun _ _ _ => ⟨rfl, fun _ _ => rfl⟩),
   fun i j e f b o hi hj he hf => h.disj i j e f b o hi hj ((OwnE.congr (by rfl) (by rfl) (by rfl)).1 he) ((OwnE.congr (by rfl) (by rfl) (by rfl)).1 hf), h.xlt, fun b o ho => h.xown b o (floor_own.1 ho), h.gok⟩
theorem rel_mark {σ : List Ent} {D : Nat} {q q' : Option (List Deferred)} (h : Rel ρ σ w) (hD : w.heap[D]? = some (.deferred q)) :
    Rel ρ σ (w.putObj D (.deferred q')) ∧ Keeps w (w.putObj D (.deferred q')) (Stay ρ σ) (Stay ρ σ) ρ ρ σ.length σ.length := by
  have oth : ∀ {k : Nat} {ob : Obj}, w.heap[k]? = some ob → (∀ q, ob ≠ .deferred q) → (w.putObj D (.deferred q')).heap[k]? = some ob := by
    intro k ob hk hne
    rw [World.putObj_heap_other (fun e => by subst e; rw [hD] at hk; simp at hk; exact hne _ hk.symm)]; exact hk
  have hkp : Keeps w (w.putObj D (.deferred q')) (Stay ρ σ) (Stay ρ σ) ρ ρ σ.length σ.length := by
    refine ⟨fun b o u hs hc => ⟨hs, ?_⟩, Nat.le_refl _, fun _ _ => rfl, fun _ _ => .inl rfl, .refl _⟩
    obtain ⟨c, e, f, hb, hu⟩ := cellAt_of hc
    rw [cellAt_cells (oth hb (by simp)), hu]
  refine ⟨⟨fun i e hi => (h.ents i e hi).keep hkp (lt_of_get hi) rfl (fun hk => ?_) (fun _ _ c e f hc => ⟨c, oth hc (by simp), rfl, fun _ _ _ => rfl⟩) (fun t os he => ⟨rfl, fun j hj => by subst he; obtain ⟨vs, e', h4⟩ := fam_cells h hi j hj; rw [oth h4 (by simp), h4]⟩), h.disj, fun b o ho => by rw [World.putObj_size]; exact h.xlt b o ho, h.xown, fun t j hj => by obtain ⟨c, e', h4⟩ := h.gok t j hj; exact ⟨c, e', oth h4 (by simp)⟩⟩, hkp⟩
  have := h.ents i e hi
  cases e with
  | var cs => obtain ⟨vs, e, _, h2⟩ := this; rw [oth h2 (by simp), h2]
  | mp es => obtain ⟨ms, c, h1, _⟩ := this; rw [oth h1 (by simp), h1]
  | lp ps asg body env k st pe => obtain ⟨r, h1, _⟩ := this; rw [oth h1 (by simp), h1]
  | _ => simp [Ent.blk] at hk
theorem leave_marks {fn : Func} {tmps : Array Value} {R : Ending → World → Prop} {s : St} {w₀ : World} {ρ₀ : Ro} {σ₀ : List Ent} {n₁ : Nat} {u : FrameMode} (hu : u ≠ .run) : ∀ (ds : List Deferred) (w : World), Marks w₀.heap.size w ds →
    Rel ρ s.hp w → (∀ t, Val w (Stay ρ s.hp) ρ s.hp.length (look s.env t) (tmps.getD t undef)) → StpN n₁ ρ₀ σ₀ w₀ ρ s.hp w →
    (∀ (x : AV) (v : Value) (w' : World), Val w (Stay ρ s.hp) ρ s.hp.length x v → Rel ρ s.hp w' → StpN n₁ ρ₀ σ₀ w₀ ρ s.hp w' → Keeps w w' (Stay ρ s.hp) (Stay ρ s.hp) ρ ρ s.hp.length s.hp.length → Val w' (Stay ρ s.hp) ρ s.hp.length x v) →
    (∀ w', Rel ρ s.hp w' → (∀ t, Val w' (Stay ρ s.hp) ρ s.hp.length (look s.env t) (tmps.getD t undef)) → StpN n₁ ρ₀ σ₀ w₀ ρ s.hp w' → Keeps w w' (Stay ρ s.hp) (Stay ρ s.hp) ρ ρ s.hp.length s.hp.length → LeavesIn Fence.wide 0 P fn tmps R [] u w') →
    LeavesInM Fence.wide 0 P fn tmps R ds u w
  | [], w, _, hr, hv, hst, _, h => h w hr hv hst ⟨fun _ _ _ a b => ⟨a, b⟩, Nat.le_refl _, fun _ _ => rfl, fun _ _ => .inl rfl, .refl _⟩
  | d :: ds, w, ⟨⟨D, hd, hD, hw, hne⟩, hm⟩, hr, hv, hst, hk, h => by
    subst hd
    obtain ⟨g1, g2⟩ := rel_mark (q' := none) hr hw
    have hst' : StpN n₁ ρ₀ σ₀ w₀ ρ s.hp (w.putObj D (.deferred none)) :=
      ⟨hst.os, hst.tape, hst.output, by rw [World.putObj_size]; exact hst.size, fun b ob hb => by
        have := lt_of_heap hb
        rw [World.putObj_heap_other (by omega)]; exact hst.frm b ob hb, hst.own, hst.len, hst.rb, hst.rt, hst.rx, hst.rm, hst.rg⟩
    refine ⟨hu, .inl ⟨D, _, rfl, run_takeDeferred hw, leave_marks hu ds _ ?_ g1 (fun t => (hv t).keep g2) hst' (fun x v w' hx hr' hst'' hk' => hx.keep hk') fun w' hr' hv' hst'' hk' => h w' hr' hv' hst'' ?_⟩⟩
    ·
      clear h hk
      induction ds with
      | nil => rw [Marks, World.putObj_size]; exact hm
      | cons d' ds ih =>
        obtain ⟨⟨D', h1, h2, h3, h4⟩, h5⟩ := hm
        refine ⟨⟨D', h1, h2, ?_, h4⟩, ih (fun d'' hd => hne d'' (List.mem_cons_of_mem _ hd)) h5⟩
        rw [World.putObj_heap_other]; exact h3
        intro e; subst e
        exact hne d' List.mem_cons_self h1
    · exact ⟨fun b o u hs hc => let ⟨a1, a2⟩ := g2.rd b o u hs hc; hk'.rd b o u a1 a2, Nat.le_refl _, fun _ _ => rfl, fun _ _ => .inl rfl, .refl _⟩
theorem call_of_awp (ht : TabOk P tab) {f : FuncId} {fn : Func} {c : Code} {args : List AV} {σ : List Ent} {K E : AV → List Ent → Prop} {Q : Ex → St → Prop} (hQ : ∀ x s0, Q x s0 → ∃ s, (s = s0 ∨ ((x = .ret ∨ x = .normal) ∧ Turn n₀ s0 s)) ∧ ∃ keep, (rangeN n₀ ++ keep).Nodup ∧ retQ tab fn.results.toList (rangeN n₀ ++ keep) K E x s)
    (hf : P.funcs[f]? = some fn) (hb : fn.body = some c) (hname : (fn.name == "runtime.NumGoroutine") = false) (hn : σ.length = n₀) (hargs : args.length ≤ fn.ntmps)
    (h : awp (std P n₀) tab c Q ⟨argEnv 0 args, σ, fn.ntmps⟩) : CallA P f args σ K E := by
  refine ⟨⟨fn, c, hf, hb, hname⟩, fun ρ w vs hrel hvs => ?_⟩
  have hl := hvs.length
  have hvs1 : All2 (Val w (Stay (ρ.floor w.heap.size) σ) (ρ.floor w.heap.size) σ.length) args vs := hvs.imp fun _ _ h => h.keep floor_keeps
  refine (callsIn_wide (n := 0)).1 (callsIn_of_wp_marks hf hb trivial ?_ rfl)
  have hs : RelS (ρ.floor w.heap.size) ⟨argEnv 0 args, σ, fn.ntmps⟩ ⟨vs.toArray ++ Array.replicate (fn.ntmps - vs.toArray.size) undef, []⟩ w := by
    refine ⟨Nat.le_refl _, by simp; omega, floor_rel hrel, fun t => ?_⟩
    rw [argEnv_look, if_pos (Nat.zero_le _), Nat.sub_zero]
    cases hx : args[t]? with
    | none => exact Val.junk
    | some x =>
      obtain ⟨v, hv, hxv⟩ := hvs1.get hx
      have hlt := lt_of_get hv
      have : (vs.toArray ++ Array.replicate (fn.ntmps - vs.toArray.size) undef).getD t undef = v := by
        rw [Array.getD_eq_getD_getElem?, Array.getElem?_append_left (by simpa using hlt)]
        simp [hv]
      simp only [this]
      exact hxv
  refine wpIn_mono (awp_sound ht c _ _ h none (ρ.floor w.heap.size) _ w (by rw [hn]; exact Nat.le_refl _) (fun l hl => by simp at hl) hs) ?_
  rintro e a' w1 ⟨x, s0, ρ0, hq, hx0, hr0, hst0⟩
  obtain ⟨s', hts, keep, hkeep, hq⟩ := hQ _ _ hq
  obtain ⟨ρ', hx, hr, hst⟩ : ∃ ρ2, exOk w1 ρ2 s' x e ∧ RelS ρ2 s' a' w1 ∧ StpN n₀ (ρ.floor w.heap.size) σ w ρ2 s'.hp w1 := by
    rcases hts with rfl | ⟨hx', hT⟩
    · exact ⟨ρ0, hx0, hr0, hst0⟩
    · obtain ⟨ρ2, h1, h2⟩ := hT ρ0 a' w1 hr0
      exact ⟨ρ2, by rcases hx' with rfl | rfl <;> exact hx0, h1, hst0.trans h2 (Nat.le_refl _)⟩
  have hkl : σ.length ≤ (rangeN n₀ ++ keep).length := by rw [rangeN_eq]; simp; omega
  have hid : ∀ i, i < σ.length → (rangeN n₀ ++ keep)[i]? = some i := fun i hi => rangeN_get (by omega) _
  have hst1 : StpN σ.length (ρ.floor w.heap.size) σ w ρ' s'.hp w1 := by rw [hn]; exact hst
  have hmk : Marks w.heap.size w1 a'.defers := by have := hr.defers; rw [hst.rm] at this; exact this
  have fin : ∀ w', Rel ρ' s'.hp w' → StpN σ.length (ρ.floor w.heap.size) σ w ρ' s'.hp w' →
      Stp ρ σ w (ρ'.pack (rangeN n₀ ++ keep) ρ'.x ρ.m) (pack (rangeN n₀ ++ keep) s'.hp) w' ∧ Rel (ρ'.pack (rangeN n₀ ++ keep) ρ'.x ρ.m) (pack (rangeN n₀ ++ keep) s'.hp) w' ∧
      ∀ {v : AV} {u : Value}, Val w' (Stay ρ' s'.hp) ρ' s'.hp.length v u → Val w' (Stay (ρ'.pack (rangeN n₀ ++ keep) ρ'.x ρ.m) (pack (rangeN n₀ ++ keep) s'.hp)) (ρ'.pack (rangeN n₀ ++ keep) ρ'.x ρ.m) (pack (rangeN n₀ ++ keep) s'.hp).length (ren (idx (rangeN n₀ ++ keep)) 9 v) u := by
    intro w' hr' hst'
    obtain ⟨hp1, hp2⟩ := rel_pack hr' hkeep (x := ρ'.x) ρ.m (fun b o h => .inl h)
    have hp3 := pack_step hst' hkl hid
    refine ⟨⟨hp3.os, hp3.tape, hp3.output, hp3.size, fun b ob hb => ?_, fun b o hb ho => floor_own.1 (hp3.own b o hb ?_), hp3.len, hp3.rb, hp3.rt, hp3.rx, rfl, hp3.rg⟩, hp1, ?_⟩
    · obtain ⟨ob', k1, k2⟩ := hp3.frm b ob hb
      exact ⟨ob', k1, (okBlk.refl (Own ρ σ b) ob).trans k2 fun o ho => floor_own.1 ho⟩
    · obtain ⟨i, e, hi, ho⟩ := ho; exact ⟨i, e, hi, (OwnE.congr (by rfl) (by rfl) (by rfl)).1 ho⟩
    · rintro v u ⟨d, hv⟩
      rw [pack_len]
      exact ren_val pack_ren (fun b o u hb _ => hp2 b o hb) 9 hv
  have done : ∀ {Kr : Prop}, (match resOf tab s' fn.results.toList with | some r => K (ren (idx (rangeN n₀ ++ keep)) 9 r) (pack (rangeN n₀ ++ keep) s'.hp) | none => False) →
      LeavesInM Fence.wide 0 P fn a'.tmps (fun e w' => ∃ ρ'' σ'', Stp ρ σ w ρ'' σ'' w' ∧ Rel ρ'' σ'' w' ∧ match e with
        | .returned v => ∃ r, K r σ'' ∧ Val w' (Stay ρ'' σ'') ρ'' σ''.length r v
        | .panicked ch => ∃ r v, ch = [{ v, recovered := false }] ∧ E r σ'' ∧ Val w' (Stay ρ'' σ'') ρ'' σ''.length r v
        | .outgrown => False) a'.defers .returning w1 := by
    intro _ hq
    split at hq
    case h_2 => exact hq.elim
    rename_i r hres
    refine leave_marks (ρ := ρ') (s := s') (by simp) a'.defers w1 hmk hr.rel hr.vals hst1 (fun x v w' hx _ _ hk => hx.keep hk) fun w' hr' hv' hst' hk' => ?_
    obtain ⟨u, h1, h2⟩ := resOf_sound (a := ⟨a'.tmps, []⟩) ht ⟨by show ρ'.m ≤ _; rw [hst'.rm]; exact hst'.size, hr.size, hr', hv'⟩ hres
    obtain ⟨f1, f2, f3⟩ := fin w' hr' hst'
    exact ⟨u, h1, _, _, f1, f2, _, hq, f3 h2⟩
  cases x with
  | normal => simp only [exOk] at hx; subst hx; exact done (Kr := True) (retQ_ret (.inr hq))
  | ret => simp only [exOk] at hx; subst hx; exact done (Kr := True) (retQ_ret (.inl hq))
  | exit i => exact hq.elim
  | pan x =>
    obtain ⟨v, rfl, hv⟩ := hx
    refine leave_marks (ρ := ρ') (s := s') (by simp) a'.defers w1 hmk hr.rel hr.vals hst1 (fun x v w' hx _ _ hk => hx.keep hk) fun w' hr' hv' hst' hk' => ?_
    obtain ⟨f1, f2, f3⟩ := fin w' hr' hst'
    exact ⟨_, _, f1, f2, _, v, rfl, hq, f3 (hv.keep hk')⟩
theorem dropN_eq {α : Type} : ∀ (n : Nat) (l : List α), dropN n l = l.drop n
  | 0, _ => rfl
  | _ + 1, [] => rfl
  | n + 1, _ :: l => by simp [dropN, dropN_eq n l]
theorem updFrom_get {l : List Nat} {n : Nat} {τ : List Ent} : ∀ (σ : List Ent) (k i : Nat), (updFrom l n τ k σ)[i]? = (σ[i]?).map fun e => match idx l (k + i) with
    | some j => renE (up l n) (entOr τ[j]?)
    | none => e
  | [], _, _ => by simp [updFrom]
  | e :: σ, k, 0 => by simp only [updFrom, List.getElem?_cons_zero, Option.map_some, Nat.add_zero, nth_eq]; rfl
  | e :: σ, k, i + 1 => by
    simp only [updFrom, List.getElem?_cons_succ]
    rw [updFrom_get σ (k + 1) i, show k + 1 + i = k + (i + 1) by omega]
theorem updFrom_len {l : List Nat} {n : Nat} {τ : List Ent} : ∀ (σ : List Ent) (k : Nat), (updFrom l n τ k σ).length = σ.length
  | [], _ => rfl
  | _ :: σ, k => by simp [updFrom, updFrom_len σ (k + 1)]
theorem back_get {l : List Nat} {σ τ : List Ent} {i : Nat} {e : Ent} (h : (back l σ τ)[i]? = some e) :
    (∃ j, i < σ.length ∧ l[j]? = some i ∧ idx l i = some j ∧ e = renE (up l σ.length) (entOr τ[j]?)) ∨ (i < σ.length ∧ i ∉ l ∧ idx l i = none ∧ σ[i]? = some e) ∨
      (σ.length ≤ i ∧ ∃ f, τ[l.length + (i - σ.length)]? = some f ∧ e = renE (up l σ.length) f) := by
  unfold back at h
  rw [lenN_eq, lenN_eq, dropN_eq] at h
  by_cases hi : i < σ.length
  · rw [List.getElem?_append_left (by rw [updFrom_len]; exact hi), updFrom_get, Nat.zero_add] at h
    simp only [Option.map_eq_some_iff] at h
    obtain ⟨e0, he0, h⟩ := h
    split at h
    · rename_i j hj
      exact .inl ⟨j, hi, idx_some hj, hj, h.symm⟩
    · rename_i hj
      subst h
      exact .inr (.inl ⟨hi, idx_none hj, hj, he0⟩)
  · rw [List.getElem?_append_right (by rw [updFrom_len]; omega), updFrom_len] at h
    simp only [List.getElem?_map, List.getElem?_drop, Option.map_eq_some_iff] at h
    obtain ⟨f, hf, rfl⟩ := h
    exact .inr (.inr ⟨by omega, f, hf, rfl⟩)
def Ro.back (ρ : Ro) (l : List Nat) (n : Nat) (ρs : Ro) : Ro :=
  ⟨fun i => match idx l i with | some j => ρs.b j | none => if i < n then ρ.b i else ρs.b (l.length + (i - n)),
   fun i => match idx l i with | some j => ρs.t j | none => if i < n then ρ.t i else ρs.t (l.length + (i - n)), ρ.x, ρ.m, ρs.g⟩
theorem call_frame {f : FuncId} {args : List AV} {σ : List Ent} {K E : AV → List Ent → Prop} (l : List Nat) (hl : l.Nodup) (hlt : ∀ i ∈ l, i < σ.length)
    (h : CallA P f (args.map (ren (idx l) 9)) (pack l σ) (fun r τ => K (ren (up l (lenN σ)) 9 r) (back l σ τ)) (fun r τ => E (ren (up l (lenN σ)) 9 r) (back l σ τ))) : CallA P f args σ K E := by
  refine ⟨h.1, fun ρ w vs hrel hvs => ?_⟩
  obtain ⟨x, hxdef⟩ : ∃ x : Nat → Nat → Prop, x = fun b o => ρ.x b o ∨ ∃ i e, i ∉ l ∧ σ[i]? = some e ∧ OwnE ρ i b o e := ⟨_, rfl⟩
  obtain ⟨hs1, hs2⟩ := rel_pack hrel hl (x := x) ρ.m (fun b o h => by rw [hxdef] at h; exact h)
  have hargs : All2 (Val w (Stay (ρ.pack l x ρ.m) (pack l σ)) (ρ.pack l x ρ.m) (pack l σ).length) (args.map (ren (idx l) 9)) vs := by
    rw [pack_len]; exact ren_vals pack_ren (fun b o u hb _ => hs2 b o hb) 9 hvs
  refine (h.2 (ρ.pack l x ρ.m) w vs hs1 hargs).mono ?_
  rintro en w' ⟨ρs, τ, hst, hr, hen⟩
  have hll : l.length ≤ τ.length := by have := hst.len; rwa [pack_len] at this
  have hlenb : (back l σ τ).length = σ.length + (τ.length - l.length) := by
    unfold back; rw [lenN_eq, lenN_eq, dropN_eq]; simp [updFrom_len]
  have hgle : FamLe ρ.g ρs.g := hst.rg.le
  have hfam : ∀ {i : Nat} {e : Ent}, σ[i]? = some e → ∀ t os, e = .fam t os → os.length = ρ.g.n t := fun he t os e' => by
    subst e'; exact (hrel.ents _ _ he).2.1
  have hpk : ∀ {t : Nat}, HasFam (pack l σ) t → HasFam σ t ∧ t ∈ l := by
    rintro t ⟨j, os, hj⟩
    obtain ⟨i, hi, he⟩ := pack_get hj
    have he' := (renE_fam he.symm).1
    cases h : σ[i]? with
    | none => rw [h] at he'; cases he'
    | some e =>
      rw [h] at he'
      have he' : e = .fam t os := he'
      subst he'
      have := (hrel.ents _ _ h).1
      subst this
      exact ⟨⟨_, _, h⟩, List.mem_of_getElem? hi⟩
  have hup : RenOk (up l σ.length) ρs (ρ.back l σ.length ρs) τ.length (back l σ τ).length := by
    have cases : ∀ j i, j < τ.length → up l σ.length j = some i → (l[j]? = some i ∧ idx l i = some j) ∨ (l.length ≤ j ∧ i = σ.length + (j - l.length) ∧ idx l i = none) := by
      intro j i hj hu
      unfold up at hu
      rw [nth_eq] at hu
      split at hu
      · rename_i k hk
        simp only [Option.some.injEq] at hu; subst hu
        exact .inl ⟨hk, idx_of_nodup hl hk⟩
      · rename_i hk
        simp only [Option.some.injEq, lenN_eq] at hu; subst hu
        have hge : l.length ≤ j := by
          rcases Nat.lt_or_ge j l.length with h1 | h1
          · rw [List.getElem?_eq_getElem h1] at hk; simp at hk
          · exact h1
        refine .inr ⟨hge, rfl, ?_⟩
        cases hid : idx l (σ.length + (j - l.length)) with
        | none => rfl
        | some m => have := hlt _ (List.mem_of_getElem? (idx_some hid)); omega
    refine ⟨fun j i hj hu => ?_, fun j i hj hu => ?_, fun j i hj hu => ?_, rfl⟩
    · rcases cases j i hj hu with ⟨h1, _⟩ | ⟨h1, rfl, _⟩
      · have := hlt i (List.mem_of_getElem? h1); rw [hlenb]; omega
      · rw [hlenb]; omega
    · rcases cases j i hj hu with ⟨h1, h2⟩ | ⟨h1, rfl, h2⟩
      · simp [Ro.back, h2]
      · simp only [Ro.back, h2]; rw [if_neg (by omega), show l.length + (σ.length + (j - l.length) - σ.length) = j by omega]
    · rcases cases j i hj hu with ⟨h1, h2⟩ | ⟨h1, rfl, h2⟩
      · simp [Ro.back, h2]
      · simp only [Ro.back, h2]; rw [if_neg (by omega), show l.length + (σ.length + (j - l.length) - σ.length) = j by omega]
  have hown1 : ∀ b o, Own (ρ.back l σ.length ρs) (back l σ τ) b o → Own ρs τ b o ∨ ∃ i e, i < σ.length ∧ i ∉ l ∧ σ[i]? = some e ∧ OwnE ρ i b o e := by
    rintro b o ⟨i, e, hi, ho⟩
    rcases back_get hi with ⟨j, hil, hlj, hij, rfl⟩ | ⟨hil, hnl, hij, he⟩ | ⟨hil, f, hf, rfl⟩
    · replace ho := renE_own (ρ := ρs) (i := j) ho (by simp [Ro.back, hij]) (by simp [Ro.back, hij]) rfl
      cases hj : τ[j]? with
      | none => rw [hj] at ho; exact ho.elim
      | some e => rw [hj] at ho; exact .inl ⟨j, e, hj, ho⟩
    · exact .inr ⟨i, e, hil, hnl, he, (OwnE.le (ρ' := ρ.back l σ.length ρs) (by simp [Ro.back, hij, hil]) (by simp [Ro.back, hij, hil]) hgle (hfam he)).1 ho⟩
    · have hin : idx l i = none := by
        cases hid : idx l i with
        | none => rfl
        | some m => have := hlt _ (List.mem_of_getElem? (idx_some hid)); omega
      replace ho := renE_own (ρ := ρs) (i := l.length + (i - σ.length)) ho (by simp [Ro.back, hin, Nat.not_lt.2 hil]) (by simp [Ro.back, hin, Nat.not_lt.2 hil]) rfl
      exact .inl ⟨_, f, hf, ho⟩
  have hsmall : ∀ b o, b < w.heap.size → Own ρs τ b o → ∃ i e, i ∈ l ∧ σ[i]? = some e ∧ OwnE ρ i b o e := fun b o hb ho => pack_own (hst.own b o hb ho)
  have holt : ∀ i e b o, σ[i]? = some e → OwnE ρ i b o e → b < w.heap.size := by
    intro i e b o he ho
    exact own_lt hrel he ho
  have hxs : ρs.x = x := hst.rx
  have hS : ∀ b o u, Stay ρs τ b o → cellAt w' b o = some u → Stay (ρ.back l σ.length ρs) (back l σ τ) b o := by
    intro b o u hb _
    refine ⟨fun ho => ?_, fun hx => hb.2 (by rw [hxs, hxdef]; exact .inl hx)⟩
    rcases hown1 b o ho with h1 | ⟨i, e, _, hnl, he, ho'⟩
    · exact hb.1 h1
    · exact hb.2 (by rw [hxs, hxdef]; exact .inr ⟨i, e, hnl, he, ho'⟩)
  have hstep : Stp ρ σ w (ρ.back l σ.length ρs) (back l σ τ) w' := by
    refine ⟨hst.os, hst.tape, hst.output, hst.size, fun b ob hb => ?_, fun b o hb ho => ?_, by rw [hlenb]; omega, fun i hi => ?_, fun i hi => ?_, rfl, rfl, ⟨hgle, fun t ht => ⟨(hst.rg.no t fun h => ht (hpk h).1).1, fun ⟨i, os, hi⟩ => ?_⟩⟩⟩
    rotate_right
    · have hno := (hst.rg.no t fun h => ht (hpk h).1).2
      rcases back_get hi with ⟨j, hil, hlj, hij, e⟩ | ⟨hil, hnl, hij, he⟩ | ⟨hil, f, hf, e⟩
      · have he' := (renE_fam e.symm).1
        cases h : τ[j]? with
        | none => rw [h] at he'; cases he'
        | some e => rw [h] at he'; exact hno ⟨j, os, by rw [h]; exact congrArg some he'⟩
      · exact ht ⟨i, os, he⟩
      · have he' := (renE_fam e.symm).1
        subst he'; exact hno ⟨_, os, hf⟩
    · obtain ⟨ob', h1, h2⟩ := hst.frm b ob hb
      refine ⟨ob', h1, (okBlk.refl (Own ρ σ b) ob).trans h2 fun o ho => ?_⟩
      obtain ⟨i, e, _, he, ho⟩ := pack_own ho
      exact ⟨i, e, he, ho⟩
    · rcases hown1 b o ho with h1 | ⟨i, e, _, _, he, ho'⟩
      · obtain ⟨i, e, _, he, ho⟩ := hsmall b o hb h1; exact ⟨i, e, he, ho⟩
      · exact ⟨i, e, he, ho'⟩
    · cases hid : idx l i with
      | none => simp [Ro.back, hid, hi]
      | some j =>
        have hj := idx_some hid
        have := hst.rb j (by rw [pack_len]; exact lt_of_get hj)
        simp only [Ro.back, hid, this]
        simp [Ro.pack, List.getD, hj]
    · cases hid : idx l i with
      | none => left; simp [Ro.back, hid, hi]
      | some j =>
        have hj := idx_some hid
        have := hst.rt j (by rw [pack_len]; exact lt_of_get hj)
        simp only [Ro.back, hid]
        simpa [Ro.pack, List.getD, hj] using this
  have hrel' : Rel (ρ.back l σ.length ρs) (back l σ τ) w' := by
    refine ⟨fun i e hi => ?_, fun i i' e e' b o hi hi' ho ho' => ?_, fun b o hx => Nat.lt_of_lt_of_le (hrel.xlt b o hx) hst.size, fun b o ho hx => ?_, hr.gok⟩
    · rcases back_get hi with ⟨j, hil, hlj, hij, rfl⟩ | ⟨hil, hnl, hij, he⟩ | ⟨hil, f, hf, rfl⟩
      · cases hj : τ[j]? with
        | none => simp [entOr, renE, EntOk]
        | some e => exact renE_ok hup hS (hr.ents j e hj) (by simp [Ro.back, hij]) (by simp [Ro.back, hij]) (by simp [up, nth_eq, hlj])
      · have hb' : (ρ.back l σ.length ρs).b i = ρ.b i := by simp [Ro.back, hij, hil]
        have ht' : (ρ.back l σ.length ρs).t i = ρ.t i := by simp [Ro.back, hij, hil]
        refine (hrel.ents i e he).keep hstep.keeps hil ht' (fun hk => ?_) (fun hp hlt' c e' f hc => ?_) (fun u os eu => ⟨(hst.rg.no u fun h => ?_).1, fun j hj => ?_⟩)
        · have hex : ∃ ob, w.heap[ρ.b i]? = some ob ∧ ∀ o', OwnE ρ i (ρ.b i) o' e := by
            have := hrel.ents i e he
            cases e with
            | var cs => obtain ⟨vs, e, _, h2⟩ := this; exact ⟨_, h2, fun _ => rfl⟩
            | mp es => obtain ⟨ms, c, h1, _⟩ := this; exact ⟨_, h1, fun _ => rfl⟩
            | lp ps asg body env k st pe => obtain ⟨r, h1, _⟩ := this; exact ⟨_, h1, fun _ => rfl⟩
            | _ => simp [Ent.blk] at hk
          obtain ⟨ob, hob, hall⟩ := hex
          obtain ⟨ob', h1, h2⟩ := hst.frm _ _ hob
          have hno : ∀ o', ¬ Own (ρ.pack l x ρ.m) (pack l σ) (ρ.b i) o' := by
            intro o' ho
            obtain ⟨i', e', hil', he', ho'⟩ := pack_own ho
            have := hrel.disj i i' e e' (ρ.b i) o' he he' (hall o') ho'
            subst this; exact hnl hil'
          rw [h1, hob]
          cases ob with
          | cells c e' f =>
            obtain ⟨c', rfl, h3, h4⟩ := h2
            congr 2
            apply Array.ext_getElem?
            intro j; exact h4 j (hno j)
          | loop r =>
            obtain ⟨r', rfl, _, h4⟩ := h2
            rcases h4 with h4 | h4
            · exact absurd h4 (hno 0)
            · rw [h4]
          | _ => rcases h2 with h2 | h2
                 · exact absurd h2 (hno 0)
                 · rw [h2]
        · obtain ⟨ob', h1, c', rfl, h3, h4⟩ := hst.frm _ _ hc
          refine ⟨c', h1, h3, fun o' g1 g2 => h4 o' fun ho => ?_⟩
          obtain ⟨i', e'', hil', he', ho'⟩ := pack_own ho
          have := hrel.disj i i' e e'' (ρ.t i).blk o' he he' (by cases e <;> first | (simp [Ent.row] at hp; done) | exact ⟨rfl, g1, g2⟩) ho'
          subst this; exact hnl hil'
        · subst eu
          have := (hrel.ents _ _ he).1
          subst this
          exact hnl (hpk h).2
        · subst eu
          obtain ⟨vs', e', h4⟩ := fam_cells hrel he j hj
          obtain ⟨ob', k1, c', rfl, h5, h6⟩ := hst.frm _ _ h4
          rw [k1, h4]
          congr 2
          apply Array.ext_getElem?
          intro o
          refine h6 o fun ho => ?_
          obtain ⟨i', e'', hil', he', ho'⟩ := pack_own ho
          have := hrel.disj i i' _ e'' _ o he he' ⟨j, hj, rfl⟩ ho'
          subst this; exact hnl hil'
      · have hin : idx l i = none := by
          cases hid : idx l i with
          | none => rfl
          | some m => have := hlt _ (List.mem_of_getElem? (idx_some hid)); omega
        refine renE_ok hup hS (hr.ents _ f hf) (by simp [Ro.back, hin, Nat.not_lt.2 hil]) (by simp [Ro.back, hin, Nat.not_lt.2 hil]) ?_
        simp only [up, nth_eq, lenN_eq]
        rw [List.getElem?_eq_none (by omega)]
        simp only [Option.some.injEq]; omega
    ·
      have tell : ∀ i e, (back l σ τ)[i]? = some e → OwnE (ρ.back l σ.length ρs) i b o e → (∃ j f, τ[j]? = some f ∧ OwnE ρs j b o f ∧ up l σ.length j = some i) ∨ (i ∉ l ∧ σ[i]? = some e ∧ OwnE ρ i b o e) := by
        intro i e hi ho
        rcases back_get hi with ⟨j, hil, hlj, hij, rfl⟩ | ⟨hil, hnl, hij, he⟩ | ⟨hil, f, hf, rfl⟩
        · replace ho := renE_own (ρ := ρs) (i := j) ho (by simp [Ro.back, hij]) (by simp [Ro.back, hij]) rfl
          cases hj : τ[j]? with
          | none => rw [hj] at ho; exact ho.elim
          | some e => rw [hj] at ho; exact .inl ⟨j, e, hj, ho, by simp [up, nth_eq, hlj]⟩
        · exact .inr ⟨hnl, he, (OwnE.le (ρ' := ρ.back l σ.length ρs) (by simp [Ro.back, hij, hil]) (by simp [Ro.back, hij, hil]) hgle (hfam he)).1 ho⟩
        · have hin : idx l i = none := by
            cases hid : idx l i with
            | none => rfl
            | some m => have := hlt _ (List.mem_of_getElem? (idx_some hid)); omega
          replace ho := renE_own (ρ := ρs) (i := l.length + (i - σ.length)) ho (by simp [Ro.back, hin, Nat.not_lt.2 hil]) (by simp [Ro.back, hin, Nat.not_lt.2 hil]) rfl
          refine .inl ⟨_, f, hf, ho, ?_⟩
          simp only [up, nth_eq, lenN_eq]
          rw [List.getElem?_eq_none (by omega)]
          simp only [Option.some.injEq]; omega
      have clash : ∀ i e j f, i ∉ l → σ[i]? = some e → OwnE ρ i b o e → τ[j]? = some f → OwnE ρs j b o f → False := by
        intro i e j f hnl he ho hf hof
        obtain ⟨i', e', hil', he', ho'⟩ := hsmall b o (holt i e b o he ho) ⟨j, f, hf, hof⟩
        have := hrel.disj i i' e e' b o he he' ho ho'
        subst this; exact hnl hil'
      rcases tell i e hi ho with ⟨j, f, hf, hof, hu⟩ | ⟨hnl, he, hoe⟩ <;> rcases tell i' e' hi' ho' with ⟨j', f', hf', hof', hu'⟩ | ⟨hnl', he', hoe'⟩
      · have := hr.disj j j' f f' b o hf hf' hof hof'
        subst this
        rw [hu] at hu'; simpa using hu'
      · exact (clash i' e' j f hnl' he' hoe' hf hof).elim
      · exact (clash i e j' f' hnl he hoe hf' hof').elim
      · exact hrel.disj i i' e e' b o he he' hoe hoe'
    · exact hrel.xown b o (hstep.own b o (hrel.xlt b o hx) ho) hx
  have conv : ∀ {v : AV} {u : Value}, Val w' (Stay ρs τ) ρs τ.length v u → Val w' (Stay (ρ.back l σ.length ρs) (back l σ τ)) (ρ.back l σ.length ρs) (back l σ τ).length (ren (up l (lenN σ)) 9 v) u := by
    rintro v u ⟨d, hv⟩
    rw [lenN_eq]
    exact ren_val hup hS 9 hv
  refine ⟨_, _, hstep, hrel', ?_⟩
  cases en with
  | returned v => obtain ⟨r, hk, hv⟩ := hen; exact ⟨_, hk, conv hv⟩
  | panicked ch => obtain ⟨r, v, rfl, hk, hv⟩ := hen; exact ⟨_, v, rfl, hk, conv hv⟩
  | outgrown => exact hen.elim
theorem call_mono {f : FuncId} {args : List AV} {σ : List Ent} {K K' E E' : AV → List Ent → Prop} (h : CallA P f args σ K E) (hk : ∀ r τ, K r τ → K' r τ) (he : ∀ r τ, E r τ → E' r τ) : CallA P f args σ K' E' := by
  refine ⟨h.1, fun ρ w vs hrel hvs => (h.2 ρ w vs hrel hvs).mono ?_⟩
  rintro en w' ⟨ρ', σ', hst, hr, hen⟩
  refine ⟨ρ', σ', hst, hr, ?_⟩
  cases en with
  | returned v => obtain ⟨r, h1, h2⟩ := hen; exact ⟨r, hk _ _ h1, h2⟩
  | panicked ch => obtain ⟨r, v, rfl, h1, h2⟩ := hen; exact ⟨r, v, rfl, he _ _ h1, h2⟩
  | outgrown => exact hen
def bodyOf (fn : Func) : Code := fn.body.getD .skip
theorem call_fn (ht : TabOk P tab) {f : FuncId} {fn : Func} {args : List AV} {σ : List Ent} {K E : AV → List Ent → Prop} (keep : List Nat)
    (hf : P.funcs[f]? = some fn) (hb : fn.body.isSome = true) (hname : (fn.name == "runtime.NumGoroutine") = false) (hn : σ.length = n₀) (hargs : leN args.length fn.ntmps = true) (hkeep : (rangeN n₀ ++ keep).Nodup)
    (h : ∀ J, J = std P n₀ → awp J tab (bodyOf fn) (retQ tab fn.results.toList (rangeN n₀ ++ keep) K E) ⟨argEnv 0 args, σ, fn.ntmps⟩) : CallA P f args σ K E := by
  obtain ⟨c, hc⟩ := Option.isSome_iff_exists.1 hb
  have h' := h _ rfl
  rw [show bodyOf fn = c by simp [bodyOf, hc]] at h'
  exact call_of_awp ht (fun _ s h => ⟨s, .inl rfl, keep, hkeep, h⟩) hf hc hname hn (by simpa using hargs) h'
inductive KeepQ (tab : Nat → Ty) (rs : List ResultVar) (n₀ : Nat) (K E : AV → List Ent → Prop) (x : Ex) (s : St) : Prop where
  | mk (keep : List Nat) (hk : (rangeN n₀ ++ keep).Nodup) (h : retQ tab rs (rangeN n₀ ++ keep) K E x s)
  | tn (t : St) (hx : x = .ret ∨ x = .normal) (ht : Turn n₀ s t) (keep : List Nat) (hk : (rangeN n₀ ++ keep).Nodup) (h : retQ tab rs (rangeN n₀ ++ keep) K E x t)
theorem call_keep (ht : TabOk P tab) {f : FuncId} {fn : Func} {args : List AV} {σ : List Ent} {K E : AV → List Ent → Prop}
    (hf : P.funcs[f]? = some fn) (hb : fn.body.isSome = true) (hname : (fn.name == "runtime.NumGoroutine") = false) (hn : σ.length = n₀) (hargs : leN args.length fn.ntmps = true)
    (h : ∀ J, J = std P n₀ → awp J tab (bodyOf fn) (KeepQ tab fn.results.toList n₀ K E) ⟨argEnv 0 args, σ, fn.ntmps⟩) : CallA P f args σ K E := by
  obtain ⟨c, hc⟩ := Option.isSome_iff_exists.1 hb
  have h' := h _ rfl
  rw [show bodyOf fn = c by simp [bodyOf, hc]] at h'
  exact call_of_awp ht (fun _ s h => by
    cases h with
    | mk keep hk h => exact ⟨s, .inl rfl, keep, hk, h⟩
    | tn t hx ht keep hk h => exact ⟨t, .inr ⟨hx, ht⟩, keep, hk, h⟩) hf hc hname hn (by simpa using hargs) h'
theorem call_in {J : Jd} (hJ : J = std P n₀) {f : FuncId} {args args' : List AV} {σ σ' : List Ent} {K E : AV → List Ent → Prop} (l : List Nat) (hl : l.Nodup) (hlt : l.all (fun i => ltN i (lenN σ)) = true)
    (ha : args.map (ren (idx l) 9) = args') (hs : pack l σ = σ')
    (h : CallA P f args' σ' (fun r τ => K (ren (up l (lenN σ)) 9 r) (back l σ τ)) (fun r τ => E (ren (up l (lenN σ)) 9 r) (back l σ τ))) : J.call f args σ K E := by
  subst hJ ha hs
  refine call_frame l hl (fun i hi => ?_) h
  have := List.all_eq_true.1 hlt i hi
  rw [lenN_eq] at this
  simpa [ltN_eq] using this
theorem back_nil (σ : List Ent) : back [] σ [] = σ := by
  have : ∀ (σ : List Ent) (n k : Nat), updFrom [] n [] k σ = σ := by
    intro σ
    induction σ with
    | nil => intro n k; rfl
    | cons e σ ih => intro n k; simp [updFrom, idx, ih]
  simp [back, this, dropN, lenN]
theorem call_pure {J : Jd} (hJ : J = std P n₀) {f : FuncId} {args : List AV} {r : AV} {σ : List Ent} {K E : AV → List Ent → Prop} (h : ∀ K E, K r [] → CallA P f (args.map (ren (idx []) 9)) [] K E)
    (hk : K (ren (up [] (lenN σ)) 9 r) σ) : J.call f args σ K E := by
  subst hJ
  refine call_frame [] List.nodup_nil (by simp) ?_
  refine call_mono (K := fun r' τ => r' = r ∧ τ = []) (E := fun _ _ => False) (by simpa [pack] using h _ _ ⟨rfl, rfl⟩) ?_ ?_
  · rintro r τ ⟨rfl, rfl⟩
    rw [back_nil]; exact hk
  · intro r τ h; exact h.elim
theorem mk_at {J : Jd} (hJ : J = std P n₀) {f : FuncId} {args : List AV} {r : AV} {pos : Nat} {K : AV → Nat → Prop} (h : ∀ K E, K r [.tip pos] → CallA P f (args.map (ren (idx []) 9)) [] K E) (hk : K r pos) : J.mkT f args K := by
  subst hJ
  refine ⟨r, pos, fun σ K' E' hk' => ?_, hk⟩
  refine call_frame [] List.nodup_nil (by simp) ?_
  refine call_mono (K := fun r' τ => r' = r ∧ τ = [.tip pos]) (E := fun _ _ => False) (by simpa [Go.Pt.pack] using h _ _ ⟨rfl, rfl⟩) ?_ ?_
  · rintro r' τ ⟨rfl, rfl⟩
    have : back [] σ [.tip pos] = snoc σ (.tip pos) := by
      have e := back_nil σ
      simp only [back, dropN, lenN, List.map_nil, List.append_nil] at e
      have e2 : ∀ (σ0 : List Ent) (n k : Nat) (τ : List Ent), updFrom [] n τ k σ0 = σ0 := by
        intro σ0
        induction σ0 with
        | nil => intro n k τ; rfl
        | cons e σ0 ih => intro n k τ; simp [updFrom, idx, ih]
      simp only [back, dropN, lenN, e2, snoc_eq, List.map_cons, List.map_nil, renE]
    rw [this]; exact hk'
  · intro r τ h; exact h.elim
theorem fit_bool {K : AV → List Ent → Prop} {a b : Bool} {τ : List Ent} (h : K (.bool a) τ) (e : b = a) : K (.bool b) τ := e ▸ h
theorem fit_int {K : AV → List Ent → Prop} {a b : Int} {k : IntKind} {τ : List Ent} (h : K (.int k a) τ) (e : b = a) : K (.int k b) τ := e ▸ h
theorem fit {K : AV → List Ent → Prop} {a b : AV} {τ : List Ent} (h : K a τ) (e : b = a) : K b τ := e ▸ h
theorem pure_at {J : Jd} (hJ : J = std P n₀) {f : FuncId} {args : List AV} {r r' : AV} {K : AV → Prop} (h : ∀ K E, K r [] → CallA P f (args.map (ren (idx []) 9)) [] K E) (hr : ∀ n, ren (up [] n) 9 r = r') (hk : K r') : J.pure f args K := by
  subst hJ
  refine ⟨r', fun σ K E hk' => ?_, hk⟩
  exact call_pure (J := std P n₀) rfl h ((hr _).symm ▸ hk')
end
end Go.Pt
namespace Go.Pt
open Go Go.ChangeShapes Go.RowKit
section
variable {P : Program}
def Ro.nil : Ro := ⟨fun _ => 0, fun _ => ⟨0, 0, 0, 0⟩, fun _ _ => False, 0, ⟨fun _ => 0, fun _ j => j, fun _ _ _ h => h⟩⟩
structure Bare (σ : List Ent) : Prop where
  rel : ∀ w : World, Rel Ro.nil σ w
  own : ∀ b o, ¬ Own Ro.nil σ b o
theorem bare_of {σ : List Ent} (h : ∀ (i : Nat) e, σ[i]? = some e → e = .fam i []) : Bare σ := by
  have no : ∀ (i : Nat) b o e, σ[i]? = some e → ¬ OwnE Ro.nil i b o e := fun i b o e he ho => by
    have := h i e he; subst this
    obtain ⟨j, hj, _⟩ := ho; simp at hj
  refine ⟨fun w => ⟨fun i e he => ?_, fun i j e f b o he _ ho _ => (no i b o e he ho).elim, fun b o h => h.elim, fun b o ⟨i, e, he, ho⟩ => (no i b o e he ho).elim, fun t j hj => by simp [Ro.nil] at hj⟩, fun b o ⟨i, e, he, ho⟩ => no i b o e he ho⟩
  have := h i e he; subst this
  exact ⟨rfl, rfl, fun j x hx => by simp at hx⟩
theorem bare_nil : Bare [] := bare_of fun i e h => by simp at h
theorem bare_fam : Bare [.fam 0 []] := bare_of fun i e h => by
  cases i with
  | zero => simp at h; exact h.symm
  | succ i => simp at h
theorem rel_nil (w : World) : Rel Ro.nil [] w := bare_nil.rel w
theorem Bare.stay {σ : List Ent} (h : Bare σ) (b o : Nat) : Stay Ro.nil σ b o := ⟨h.own b o, id⟩
theorem stay_nil (b o : Nat) : Stay Ro.nil [] b o := bare_nil.stay b o
theorem below_of {σ : List Ent} (hb : Bare σ) {w w' : World} {ρ' : Ro} {σ' : List Ent} (h : Stp Ro.nil σ w ρ' σ' w') : Below w.heap.size w w' := by
  refine ⟨h.os, h.tape, h.output, h.size, fun k hk => ?_⟩
  obtain ⟨ob', h1, h2⟩ := h.frm k w.heap[k] (by simp [hk])
  rw [h1]
  have hno : ∀ o, ¬ Own Ro.nil σ k o := fun o => hb.own k o
  have : ob' = w.heap[k] := by
    generalize w.heap[k] = a at h2
    cases a with
    | cells c e f =>
      obtain ⟨c', rfl, hs, hc⟩ := h2
      have : c' = c := Array.ext_getElem? fun o => hc o (hno o)
      rw [this]
    | loop r =>
      obtain ⟨r', rfl, _, h4⟩ := h2
      rcases h4 with h4 | h4
      · exact absurd h4 (hno 0)
      · rw [h4]
    | _ =>
      rcases h2 with h2 | h2
      · exact absurd h2 (hno 0)
      · exact h2
  rw [this]; simp [hk]
theorem trodAll_below {H : Type} {enc : TypeId × Value → H} (hl : laidOutB P = true) {W W' : World} (hb : Below W.heap.size W W') : ∀ {ts : List TypeId} {vs : List Value} {ds : List (DataW H)} {ps : List MemPlace},
    (∀ t ∈ ts, P.readableRec t = true ∧ t < P.types.size) → DataW.TrodAll enc P W 0 (fun _ => true) true ts vs ds ps → (∀ x ∈ ps, x.block < W.heap.size) → DataW.TrodAll enc P W' 0 (fun b => decide (b < W.heap.size)) true ts vs ds ps
  | [], [], [], _, _, h, _ => h
  | t :: ts, v :: vs, d :: ds, ps, hr, ⟨p, q, h1, h2, e⟩, hlt =>
    ⟨p, q, Below.trod hl (hr t List.mem_cons_self).1 (hr t List.mem_cons_self).2 h1 hb (fun x hx => hlt x (by rw [e]; exact List.mem_append_left _ hx)),
      trodAll_below hl hb (fun t ht => hr t (List.mem_cons_of_mem _ ht)) h2 (fun x hx => hlt x (by rw [e]; exact List.mem_append_right _ hx)), e⟩
  | [], [], _ :: _, _, _, h, _ => h.elim
  | [], _ :: _, _, _, _, h, _ => h.elim
  | _ :: _, [], _, _, _, h, _ => h.elim
  | _ :: _, _ :: _, [], _, _, h, _ => h.elim
theorem post_trueB {σ : List Ent} (hbare : Bare σ) {H : Type} {enc : TypeId × Value → H} {fn : Func} {s : ChangeSpec} {apart fresh handsOn : Bool} {W : World} {args : Array Value} {ds gs : List (DataW H)} {before : List MemPlace} {f : FuncId} {avs : List AV} {tb : TypeId}
    (hl : laidOutB P = true) (hr : ∀ t ∈ fn.params.toList, P.readableRec t = true ∧ t < P.types.size) (hvars : s.vars = []) (hres : fn.resultTypes = #[tb]) (hb : P.underlying tb = some .bool)
    (hfn : (s.fn H (ds ++ gs)).results = [.lit (.bool true)]) (hfa : (s.fn H (ds ++ gs)).args = ds) (hfv : (s.fn H (ds ++ gs)).vars = [])
    (hW : DataW.Whole enc P fn.params.toList s.vars apart W args.toList ds gs before)
    (hv : All2 (Val W (Stay Ro.nil []) Ro.nil 0) avs args.toList)
    (h : CallA P f avs σ (fun r _ => r = .bool true) (fun _ _ => False)) :
    Calls P f args W fun e W' => ∃ v, e = .returned v ∧ s.post enc P fn apart fresh handsOn false W args v W' := by
  have hv' : All2 (Val W (Stay Ro.nil σ) Ro.nil σ.length) avs args.toList := hv.imp fun _ _ h => h.keep ⟨fun b o u _ hc => ⟨hbare.stay b o, hc⟩, Nat.zero_le _, fun _ _ => rfl, fun _ _ => .inl rfl, .refl _⟩
  have := h.2 Ro.nil W args.toList (hbare.rel W) hv'
  rw [show args.toList.toArray = args by simp] at this
  refine Calls.mono this fun e W' he => ?_
  obtain ⟨ρ', σ', hst, hrel, he⟩ := he
  cases e with
  | outgrown => exact he.elim
  | panicked ch => obtain ⟨_, _, _, h, _⟩ := he; exact h.elim
  | returned v =>
    have he : ∃ r, r = AV.bool true ∧ Val W' (Stay ρ' σ') ρ' σ'.length r v := he
    obtain ⟨r, hrk, hr'⟩ := he
    have hrk : r = .bool true := hrk
    subst hrk
    have hvb := val_bool hr'
    subst hvb
    have hbel := below_of hbare hst
    have hWl := hW.lt
    obtain ⟨p, q, hA, hV, hpq, hfz, hnd⟩ := id hW
    rw [hvars] at hV
    have hq : gs = [] ∧ q = [] := by
      cases gs with
      | nil => exact ⟨rfl, hV⟩
      | cons g gs => exact hV.elim
    obtain ⟨rfl, rfl⟩ := hq
    refine ⟨_, rfl, ds, [], before, [], p, [], hW, ?_, ?_, ?_, ?_, fun h => by cases h⟩
    · rw [hfn, hres]
      exact trodAll_mk1 (shut_bool hb true)
    · rw [hfa]
      exact trodAll_below hl hbel hr hA fun x hx => by simpa using hWl x (by rw [hpq]; exact List.mem_append_left _ hx)
    · rw [hvars, hfv]; rfl
    · exact hbel.frame _
theorem post_true {H : Type} {enc : TypeId × Value → H} {fn : Func} {s : ChangeSpec} {apart fresh handsOn : Bool} {W : World} {args : Array Value} {ds gs : List (DataW H)} {before : List MemPlace} {f : FuncId} {avs : List AV} {tb : TypeId}
    (hl : laidOutB P = true) (hr : ∀ t ∈ fn.params.toList, P.readableRec t = true ∧ t < P.types.size) (hvars : s.vars = []) (hres : fn.resultTypes = #[tb]) (hb : P.underlying tb = some .bool)
    (hfn : (s.fn H (ds ++ gs)).results = [.lit (.bool true)]) (hfa : (s.fn H (ds ++ gs)).args = ds) (hfv : (s.fn H (ds ++ gs)).vars = [])
    (hW : DataW.Whole enc P fn.params.toList s.vars apart W args.toList ds gs before)
    (hv : All2 (Val W (Stay Ro.nil []) Ro.nil 0) avs args.toList)
    (h : CallA P f avs [] (fun r _ => r = .bool true) (fun _ _ => False)) :
    Calls P f args W fun e W' => ∃ v, e = .returned v ∧ s.post enc P fn apart fresh handsOn false W args v W' := post_trueB bare_nil hl hr hvars hres hb hfn hfa hfv hW hv h
end
end Go.Pt
namespace Go.Pt
open Go
section
variable {P : Program}
abbrev V0 (w : World) : AV → Value → Prop := Val w (Stay Ro.nil []) Ro.nil 0
structure Rd (P : Program) (t : TypeId) (α : Type) (mk : α → AV) (ok : α → Prop) : Prop where
  rd : ∀ {H : Type} {enc : TypeId × Value → H} {w : World} {base : Nat} {sp : Nat → Bool} {held : Bool} {fuel : Nat} {cs : List Value} {x : DataW H × List MemPlace},
    DataW.trod enc P w base sp held fuel t cs = some x → (∀ n ∈ x.1.weights P t, n ≤ reachBytes) → ∃ a, ok a ∧ All2 (V0 w) (mk a).cells cs ∧ ∀ c ∈ cs, c.oneCell' = true
theorem rd_bool {t : TypeId} (ht : P.underlying t = some .bool) : Rd P t Bool .bool (fun _ => True) := ⟨by
  intro H enc w base sp held fuel cs x h hw
  cases fuel with
  | zero => simp [DataW.trod] at h
  | succ n =>
    rw [DataW.trod_step] at h
    simp only [DataW.trodStep, ht] at h
    rcases cs with _ | ⟨c, _ | ⟨c', cs⟩⟩ <;> try (simp at h; done)
    cases c <;> try (simp at h; done)
    rename_i b
    exact ⟨b, trivial, ⟨⟨1, rfl⟩, trivial⟩, by simp [Value.oneCell']⟩⟩
theorem rd_int {t : TypeId} {k : IntKind} (ht : P.underlying t = some (.int k)) : Rd P t Int (.int k) (fun n => (Lit.int k n).wf = true) := ⟨by
  intro H enc w base sp held fuel cs x h hw
  cases fuel with
  | zero => simp [DataW.trod] at h
  | succ n =>
    rw [DataW.trod_step] at h
    simp only [DataW.trodStep, ht] at h
    rcases cs with _ | ⟨c, _ | ⟨c', cs⟩⟩ <;> try (simp at h; done)
    cases c <;> try (simp at h; done)
    rename_i k' b
    simp only at h
    split at h
    · rename_i hh
      obtain ⟨rfl, hwf⟩ := hh
      exact ⟨b, hwf, ⟨⟨1, rfl⟩, trivial⟩, by simp [Value.oneCell']⟩
    · simp at h⟩
theorem rd_str {t : TypeId} (ht : P.underlying t = some .string) : Rd P t ByteArray .str (fun s => s.size ≤ maxLen) := ⟨by
  intro H enc w base sp held fuel cs x h hw
  cases fuel with
  | zero => simp [DataW.trod] at h
  | succ n =>
    rw [DataW.trod_step] at h
    simp only [DataW.trodStep, ht] at h
    rcases cs with _ | ⟨c, _ | ⟨c', cs⟩⟩ <;> try (simp at h; done)
    cases c <;> try (simp at h; done)
    rename_i b
    simp only at h
    split at h
    · rename_i hh
      exact ⟨b, hh, ⟨⟨1, rfl⟩, trivial⟩, by simp [Value.oneCell']⟩
    · simp at h⟩
structure RdF (P : Program) (n off : Nat) (fs : List Field) (α : Type) (cells : α → List AV) (ok : α → Prop) : Prop where
  rd : ∀ {H : Type} {enc : TypeId × Value → H} {w : World} {base : Nat} {sp : Nat → Bool} {held : Bool} {fuel : Nat} {cs : List Value} {xs : List (DataW H × List MemPlace)},
    cs.length = n → (fs.mapM fun f => DataW.trod enc P w base sp held fuel f.type ((cs.drop f.offset).take (P.cellsOf f.type))) = some xs →
      (∀ n ∈ DataW.weightsEach P (fs.map (·.type)) (xs.map (·.1)), n ≤ reachBytes) → ∃ a, ok a ∧ All2 (V0 w) (cells a) (cs.drop off) ∧ ∀ c ∈ cs.drop off, c.oneCell' = true
theorem rdf_nil {n : Nat} : RdF P n n [] Unit (fun _ => []) (fun _ => True) := ⟨by
  intro H enc w base sp held fuel cs xs hl h hw
  have : cs.drop n = [] := by rw [← hl]; simp
  exact ⟨(), trivial, by rw [this]; trivial, by rw [this]; simp⟩⟩
theorem rdf_end {n off : Nat} (h : off = n) : RdF P n off [] Unit (fun _ => []) (fun _ => True) := h ▸ rdf_nil
theorem rdf_cons {n off : Nat} {f : Field} {fs : List Field} {α β : Type} {mk : α → AV} {ok : α → Prop} {cells : β → List AV} {ok' : β → Prop} (ho : f.offset = off)
    (r : Rd P f.type α mk ok) (rs : RdF P n (off + P.cellsOf f.type) fs β cells ok') : RdF P n off (f :: fs) (α × β) (fun x => (mk x.1).cells ++ cells x.2) (fun x => ok x.1 ∧ ok' x.2) := ⟨by
  intro H enc w base sp held fuel cs xs hl h hw
  rw [List.mapM_cons] at h
  simp only [Option.bind_eq_bind, Option.bind_eq_some_iff] at h
  obtain ⟨x, hx, ys, hys, e⟩ := h
  simp only [Option.pure_def, Option.some.injEq] at e
  subst e
  simp only [List.map_cons, DataW.weightsEach, List.mem_append] at hw
  rw [ho] at hx
  obtain ⟨a, ha, hv, hc⟩ := r.rd hx fun n hn => hw n (.inl hn)
  obtain ⟨b, hb, hv', hc'⟩ := rs.rd hl hys fun n hn => hw n (.inr hn)
  have e : cs.drop off = (cs.drop off).take (P.cellsOf f.type) ++ cs.drop (off + P.cellsOf f.type) := by
    rw [← List.drop_drop]; exact (List.take_append_drop _ _).symm
  refine ⟨(a, b), ⟨ha, hb⟩, by rw [e]; exact hv.append hv', fun c hm => ?_⟩
  rw [e] at hm
  rcases List.mem_append.1 hm with h | h
  · exact hc c h
  · exact hc' c h⟩
theorem rd_struct {t : TypeId} {fs : Array Field} {α : Type} {cells : α → List AV} {ok : α → Prop} (ht : P.underlying t = some (.struct fs)) (r : RdF P (P.cellsOf t) 0 fs.toList α cells ok) : Rd P t α (fun x => .agg (cells x)) ok := ⟨by
  intro H enc w base sp held fuel cs x h hw
  cases fuel with
  | zero => simp [DataW.trod] at h
  | succ n =>
    rw [DataW.trod_step] at h
    simp only [DataW.trodStep, ht] at h
    split at h
    · rename_i hl
      obtain ⟨xs, hxs, e⟩ := Option.map_eq_some_iff.1 h
      subst e
      simp only [DataW.weights, ht] at hw
      obtain ⟨a, ha, hv, hc⟩ := r.rd hl hxs hw
      exact ⟨a, ha, by simpa [AV.cells] using hv, by simpa using hc⟩
    · simp at h⟩
theorem rd_conv {t : TypeId} {α β : Type} {mk : α → AV} {ok : α → Prop} {mk' : β → AV} {ok' : β → Prop} (r : Rd P t α mk ok) (g : α → β) (hm : ∀ x, mk' (g x) = mk x) (ho : ∀ x, ok x → ok' (g x)) : Rd P t β mk' ok' := ⟨by
  intro H enc w base sp held fuel cs x h hw
  obtain ⟨a, ha, hv, hc⟩ := r.rd h hw
  exact ⟨g a, ho a ha, by rw [hm]; exact hv, hc⟩⟩
theorem list_of {α : Type} {R : Nat → α → Prop} : ∀ (n : Nat), (∀ i, i < n → ∃ x, R i x) → ∃ l : List α, l.length = n ∧ ∀ i x, l[i]? = some x → R i x
  | 0, _ => ⟨[], rfl, fun i x h => by simp at h⟩
  | n + 1, h => by
    obtain ⟨l, hl, hr⟩ := list_of n fun i hi => h i (by omega)
    obtain ⟨x, hx⟩ := h n (by omega)
    refine ⟨l ++ [x], by simp [hl], fun i y hy => ?_⟩
    rcases Nat.lt_trichotomy i n with hlt | rfl | hgt
    · rw [List.getElem?_append_left (by omega)] at hy; exact hr i y hy
    · rw [List.getElem?_append_right (by omega), hl] at hy
      simp at hy; subst hy; exact hx
    · rw [List.getElem?_eq_none (by simp; omega)] at hy; simp at hy
theorem mapM_get {α β : Type} {f : α → Option β} : ∀ {l : List α} {m : List β}, l.mapM f = some m → ∀ (i : Nat) (x : α), l[i]? = some x → ∃ y, m[i]? = some y ∧ f x = some y
  | [], _, _, i, x, hx => by simp at hx
  | a :: l, m, h, i, x, hx => by
    rw [List.mapM_cons] at h
    simp only [Option.bind_eq_bind, Option.bind_eq_some_iff] at h
    obtain ⟨y, hy, ys, hys, e⟩ := h
    simp only [Option.pure_def, Option.some.injEq] at e
    subst e
    cases i with
    | zero => simp at hx; subst hx; exact ⟨y, rfl, hy⟩
    | succ i => exact mapM_get hys i x (by simpa using hx)
theorem mapM_len {α β : Type} {f : α → Option β} : ∀ {l : List α} {m : List β}, l.mapM f = some m → m.length = l.length
  | [], m, h => by simp at h; subst h; rfl
  | a :: l, m, h => by
    rw [List.mapM_cons] at h
    simp only [Option.bind_eq_bind, Option.bind_eq_some_iff] at h
    obtain ⟨y, hy, ys, hys, e⟩ := h
    simp only [Option.pure_def, Option.some.injEq] at e
    subst e
    simp [mapM_len hys]
theorem add_spot {a : Addr} {n : Nat} (h : a.spot = none) : a.add n = ⟨a.block, a.off + n, none⟩ := by
  obtain ⟨b, o, sp⟩ := a
  simp at h; subst h
  simp only [Addr.add]; split <;> simp_all
theorem mem_weightsAll {H : Type} {e : TypeId} {d : DataW H} {n : Nat} : ∀ {l : List (DataW H)}, d ∈ l → n ∈ d.weights P e → n ∈ DataW.weightsAll P e l
  | [], h, _ => by simp at h
  | x :: l, h, hn => by
    simp only [DataW.weightsAll, List.mem_append]
    rcases List.mem_cons.1 h with rfl | h
    · exact .inl hn
    · exact .inr (mem_weightsAll h hn)
theorem rd_slice {t e : TypeId} {s : Nat} {α : Type} {mk : α → AV} {ok : α → Prop} (ht : P.underlying t = some (.slice e)) (hs : P.cellsOf e = s) (hp : 0 < s) (r : Rd P e α mk ok) :
    Rd P t (List α) (fun l => .sl s (l.map mk) .no) (fun l => (∀ x ∈ l, ok x) ∧ l.length * P.bytesOf e ≤ reachBytes) := ⟨by
  intro H enc w base sp held fuel cs x h hw
  cases fuel with
  | zero => simp [DataW.trod] at h
  | succ n =>
    rw [DataW.trod_step] at h
    simp only [DataW.trodStep, ht] at h
    rcases cs with _ | ⟨c, _ | ⟨c', cs⟩⟩ <;> try (simp at h; done)
    cases c <;> try (simp at h; done)
    rename_i ad len cap
    cases ad with
    | none =>
      have hz : len = 0 ∧ cap = 0 := by
        cases len <;> cases cap <;> simp at h <;> simp
      obtain ⟨rfl, rfl⟩ := hz
      exact ⟨[], ⟨by simp, by simp⟩, ⟨val_sl_mk rfl (Nat.le_refl _) trivial (fun h => absurd rfl h), trivial⟩, by simp [Value.oneCell']⟩
    | some a =>
      simp only at h
      split at h
      case isFalse => simp at h
      rename_i hc
      obtain ⟨hb, hlc, hcm⟩ := hc
      simp only [Option.bind_eq_some_iff] at h
      obtain ⟨elems, hel, h⟩ := h
      obtain ⟨rest, _, e⟩ := Option.map_eq_some_iff.1 h
      subst e
      simp only [DataW.weights, ht, List.mem_cons, List.mem_append, List.length_map, forall_eq_or_imp] at hw
      have hwt := hw.1
      have hlel : elems.length = len := by have := mapM_len hel; simpa using this
      have each : ∀ i, i < len → ∃ x : α, ok x ∧ ∃ vs : List Value, All2 (V0 w) (mk x).cells vs ∧ (∀ c ∈ vs, c.oneCell' = true) ∧ vs.length = s ∧ ∀ j u, vs[j]? = some u → w.cell? ((a.add (i * s)).add j) = some u := by
        intro i hi
        obtain ⟨y, hye, hy⟩ := mapM_get hel i i (by simp [hi])
        simp only [Option.bind_eq_some_iff, hs] at hy
        obtain ⟨vs, hvs, hy⟩ := hy
        obtain ⟨x, hx, hv, hone⟩ := r.rd hy fun n hn => hw.2 n (.inl (mem_weightsAll (List.mem_map_of_mem (List.mem_of_getElem? hye)) hn))
        unfold World.cells? at hvs
        split at hvs
        case isFalse => simp at hvs
        have hlen : vs.length = s := by
          have := mapM_len hvs; simpa using this
        refine ⟨x, hx, vs, hv, hone, hlen, fun j u hu => ?_⟩
        have hj : j < s := by have := (List.getElem?_eq_some_iff.1 hu).1; omega
        obtain ⟨y', hy', he⟩ := mapM_get hvs j j (by simp [hj])
        rw [hu] at hy'; simp at hy'; subst hy'; exact he
      obtain ⟨l, hl, hR⟩ := list_of len each
      refine ⟨l, ⟨fun x hx => ?_, by rw [hl, ← hlel]; exact Nat.le_trans (Nat.mul_le_mul_right _ (Nat.le_add_right _ _)) hwt⟩, ⟨val_sl_mk (by simp [hl]) hlc trivial fun hne => ?_, trivial⟩, by simp [Value.oneCell']⟩
      · obtain ⟨i, hi⟩ := List.mem_iff_getElem?.1 hx
        exact (hR i x hi).1
      · have hpos : 0 < len := by
          rcases Nat.eq_zero_or_pos len with h0 | h0
          · exfalso; apply hne; rw [h0] at hl; rw [List.length_eq_zero_iff.1 hl]; rfl
          · exact h0
        have hspot : a.spot = none := by
          obtain ⟨x, _, vs, _, _, hlen, hcell⟩ := each 0 hpos
          have := World.cell?_spot (hcell 0 vs[0] (by simp))
          simpa [Addr.add] using this
        refine ⟨a.block, a.off, by obtain ⟨b, o, sp'⟩ := a; simp at hspot; subst hspot; rfl, fun i y hy => ?_⟩
        rw [List.getElem?_map, Option.map_eq_some_iff] at hy
        obtain ⟨x, hx, rfl⟩ := hy
        obtain ⟨_, vs, hv, hone, hlen, hcell⟩ := hR i x hx
        refine ⟨vs, hv, hlen, fun j u hu => ⟨stay_nil _ _, ?_, hone u (List.mem_of_getElem? hu)⟩⟩
        have := hcell j u hu
        rw [add_spot hspot, add_spot rfl] at this
        exact this⟩
theorem arg_one {a : AV} {v : Value} {w : World} (h : All2 (V0 w) a.cells v.cells.toList) (ha : a.cells = [a]) (hv : v.cells = #[v]) : V0 w a v := by
  rw [ha, hv] at h
  exact h.1
theorem all2_val {w : World} : ∀ {l : List AV} {m : List Value}, All2 (V0 w) l m → ∃ d, All2 (Cz w (Stay Ro.nil []) Ro.nil d 0) l m := fun h => all2_depth h
theorem arg_agg {l : List AV} {c : Array Value} {w : World} (h : All2 (V0 w) (AV.agg l).cells (Value.agg c).cells.toList) : V0 w (.agg l) (.agg c) := by
  obtain ⟨d, hd⟩ := all2_depth (show All2 (V0 w) l c.toList from h)
  exact ⟨d + 1, c.toList, by simp, hd⟩
end
end Go.Pt
namespace Go.Pt
open Go
section
variable {P : Program} {n₀ : Nat} {tab : Nat → Ty} {w : World} {ρ : Ro} {σ : List Ent}
def Told (r : AV) (τ : List Ent) (K : AV → List Ent → Prop) : Prop :=
  ∀ ρ w v, Rel ρ τ w → Val w (Stay ρ τ) ρ τ.length r v → ∃ ρ' τ' r', Stp ρ τ w ρ' τ' w ∧ Rel ρ' τ' w ∧ K r' τ' ∧ Val w (Stay ρ' τ') ρ' τ'.length r' v
theorem call_told {f : FuncId} {args : List AV} {K K' E : AV → List Ent → Prop} (h : CallA P f args σ K' E) (ht : ∀ r τ, K' r τ → Told r τ K) : CallA P f args σ K E := by
  refine ⟨h.1, fun ρ w vs hrel hvs => (h.2 ρ w vs hrel hvs).mono ?_⟩
  rintro en w' ⟨ρ', σ', hst, hr, hen⟩
  cases en with
  | returned v =>
    obtain ⟨r, hk, hv⟩ := hen
    obtain ⟨ρ2, τ2, r2, g1, g2, g3, g4⟩ := ht r σ' hk ρ' w' v hr hv
    exact ⟨ρ2, τ2, hst.trans' g1, g2, r2, g3, g4⟩
  | panicked ch => exact ⟨ρ', σ', hst, hr, hen⟩
  | outgrown => exact ⟨ρ', σ', hst, hr, hen⟩
theorem told_cut {id s : Nat} {n N : Int} {xs : List AV} {τ : List Ent} {K : AV → List Ent → Prop} (hid : nth τ id = some (.vec s xs)) (hn : n ≤ xs.length)
    (hk : K (.vs (lenN τ) s 0 n n) (snoc (setN τ id .dead) (.vec s (xs.take n.toNat)))) : Told (.vs id s 0 n N) τ K := by
  intro ρ w v hr hv
  rw [nth_eq] at hid
  rw [lenN_eq, snoc_eq] at hk
  have hent := hr.ents id _ hid
  obtain ⟨hp, hfit, hblk, hel⟩ := hent
  obtain ⟨hidl, ad, len, cap, rfl, rfl, hcap, hadr, l, hl, hN, ha⟩ := val_vs hv
  have hl0 : l = 0 := by omega
  subst hl0
  replace ha := ha hp
  rw [Int.toNat_natCast] at hk
  have h1 := rel_row hr (xs' := xs.take len) (q := (ρ.t id).start) (news := []) hid (Nat.le_refl _) (by simp; omega)
    (by
      have := Nat.mul_le_mul_right s (show (xs.take len).length ≤ xs.length by simp; omega)
      omega)
    (fun k x hx => by
      rw [List.getElem?_take] at hx
      split at hx
      · exact hel k x hx
      · simp at hx)
  simp only [World.setCells] at h1
  have hid1 : (setN τ id (.vec s (xs.take len)))[id]? = some (.vec s (xs.take len)) := by rw [setN_eq]; simp [hidl]
  have h2 := rel_mv h1.2 hid1
  have hsl : (setN τ id (.vec s (xs.take len))).length = τ.length := by rw [setN_eq]; simp
  have hss : setN (setN τ id (.vec s (xs.take len))) id .dead = setN τ id .dead := by rw [setN_eq, setN_eq, setN_eq, List.set_set]
  rw [hsl, hss] at h2
  refine ⟨_, _, _, h1.1.trans' h2.1, h2.2, hk, 1, by rw [setN_eq]; simp, ad, len, cap, rfl, rfl, hcap, hadr, 0, rfl, by omega, fun _ hc => ?_⟩
  simp only [Ro.tipAt, if_true]
  exact ha hc
theorem told_sl {id s : Nat} {lo n N : Int} {xs : List AV} {τ : List Ent} {K : AV → List Ent → Prop} (hid : nth τ id = some (.vec s xs)) (h0 : 0 ≤ lo) (hn : lo + n ≤ xs.length)
    (hk : K (.sl s ((xs.take (lo + n).toNat).drop lo.toNat) .no) (setN τ id .dead)) : Told (.vs id s lo n N) τ K := by
  intro ρ w v hr hv
  rw [nth_eq] at hid
  obtain ⟨hp, hfit, hblk, hel⟩ := hr.ents id _ hid
  obtain ⟨hidl, ad, len, cap, rfl, rfl, hcap, hadr, l, rfl, hN, ha⟩ := val_vs hv
  replace ha := ha hp
  have hkill := rel_kill hr id
  refine ⟨_, _, _, hkill.1, hkill.2, hk, ?_⟩
  have e1 : ((l : Int) + len).toNat = l + len := by omega
  rw [e1, Int.toNat_natCast]
  have e2 : ((xs.take (l + len)).drop l).length = len := by simp; omega
  refine val_sl_mk e2.symm hcap trivial fun hne => ?_
  have hlen : 0 < len := by
    rcases Nat.eq_zero_or_pos len with h | h
    · exfalso; apply hne; exact List.eq_nil_of_length_eq_zero (by rw [e2]; exact h)
    · exact h
  obtain ⟨rfl, hend⟩ := ha (by omega)
  refine ⟨_, _, rfl, fun i x hi => ?_⟩
  rw [List.getElem?_drop, List.getElem?_take] at hi
  split at hi
  case isFalse => simp at hi
  rename_i hlt
  obtain ⟨vs, g1, g2, g3⟩ := hel _ x hi
  refine ⟨vs, g1.imp fun _ _ h => h.keep hkill.1.keeps.zero, g2, fun j u hu => ?_⟩
  obtain ⟨g4, g5⟩ := g3 j u hu
  have hj := lt_of_get hu
  rw [g2] at hj
  have hb := el_lt (lt_of_get hi) hj
  rw [show (ρ.t id).start + l * s + i * s + j = (ρ.t id).start + (l + i) * s + j by rw [Nat.add_mul]; omega]
  refine ⟨⟨?_, ?_⟩, g4, g5⟩
  · rintro ⟨i', f, hi', ho⟩
    rcases get_set hi' with ⟨rfl, rfl⟩ | ⟨hne', hi'⟩
    · exact ho.elim
    · exact hne' (hr.disj i' id f _ _ _ hi' hid ho ⟨rfl, by omega, by omega⟩)
  · exact hr.xown _ _ ⟨id, _, hid, rfl, by omega, by omega⟩
theorem Turn.le {s t : St} (h : Le s t) (hn : n₀ ≤ t.hp.length) : Turn n₀ s t := fun ρ _ _ hs => ⟨ρ, (h.rel hs).1, (h.rel hs).2 n₀ hn⟩
theorem Turn.trans {s t u : St} (h : Turn n₀ s t) (k : Turn n₀ t u) : Turn n₀ s u := fun ρ a w hs => by
  obtain ⟨ρ1, h1, h2⟩ := h ρ a w hs
  obtain ⟨ρ2, k1, k2⟩ := k ρ1 a w h1
  exact ⟨ρ2, k1, h2.trans k2 (Nat.le_refl _)⟩
def St.packed (s : St) (l : List Nat) : St := ⟨s.env.map fun x => (x.1, ren (idx l) 6 x.2), Go.Pt.pack l s.hp, s.n⟩
theorem Turn.pack {s : St} (l : List Nat) (hnd : (rangeN n₀ ++ l).Nodup) (hn : n₀ ≤ s.hp.length) : Turn n₀ s (s.packed (rangeN n₀ ++ l)) := by
  intro ρ a w hs
  have hp := rel_pack hs.rel hnd (x := ρ.x) ρ.m (fun b o h => .inl h)
  have hlen : (rangeN n₀ ++ l).length = n₀ + l.length := by rw [rangeN_eq]; simp
  have hle := (Stp.refl ρ s.hp w).le hn
  refine ⟨ρ.pack (rangeN n₀ ++ l) ρ.x ρ.m, ⟨hs.defers, hs.size, hp.1, fun t => ?_⟩, ?_⟩
  · show Val w _ _ (Go.Pt.pack (rangeN n₀ ++ l) s.hp).length (look (s.env.map _) t) _
    rw [look_ren, pack_len]
    exact ren_val pack_ren (fun b o u hb _ => hp.2 b o hb) 6 (hs.vals t).choose_spec
  · refine ⟨rfl, rfl, rfl, Nat.le_refl _, fun b ob h => ⟨ob, h, okBlk.refl _ _⟩, fun b o hb ho => ?_, by simp only [St.packed, pack_len, hlen]; omega, fun i hi => ?_, fun i hi => ?_, rfl, rfl, .of fun j u os hj => pack_hasfam hj⟩
    · obtain ⟨i, e, _, he, ho'⟩ := pack_own ho
      exact ⟨i, e, he, ho'⟩
    · simp [Ro.pack, List.getD, rangeN_get hi l]
    · left; simp [Ro.pack, List.getD, rangeN_get hi l]
theorem rel_reread (h : Rel ρ σ w) {i : Nat} {cs cs' : List AV} (hi : σ[i]? = some (.var cs)) (hv : ∀ vs, All2 (Val w (Stay ρ σ) ρ σ.length) cs vs → All2 (Val w (Stay ρ σ) ρ σ.length) cs' vs) :
    Stp ρ σ w ρ (setN σ i (.var cs')) w ∧ Rel ρ (setN σ i (.var cs')) w := by
  obtain ⟨vs, e, h1, h2⟩ := h.ents i _ hi
  have := rel_store h (cs' := cs') (vs' := vs) hi h2 rfl (hv vs h1)
  have hw : w.setRow (ρ.b i) vs.toArray = w := by
    have hh : (w.setRow (ρ.b i) vs.toArray).heap = w.heap := by
      apply Array.ext_getElem?
      intro k
      by_cases hk : k = ρ.b i
      · subst hk; rw [setRow_heap w _ _ _ _ _ h2, h2]
      · rw [setRow_other w _ _ _ hk]
    have : w.setRow (ρ.b i) vs.toArray = { w with heap := (w.setRow (ρ.b i) vs.toArray).heap } := rfl
    rw [this, hh]
  rw [hw] at this
  exact this
theorem set_same {α : Type} : ∀ {l : List α} {n : Nat} {a : α}, l[n]? = some a → l.set n a = l
  | [], _, _, h => by simp at h
  | x :: l, 0, a, h => by simp at h; simp [h]
  | x :: l, n + 1, a, h => by simp at h; simp [set_same h]
theorem turn_nil {s : St} (i j z : Nat) {cs : List AV} (hi : nth s.hp i = some (.var cs)) (hj : nth cs j = some .nils) (hn : n₀ ≤ s.hp.length) :
    Turn n₀ s ⟨s.env, setN (snoc s.hp (.vec z [])) i (.var (setN cs j (.vs (lenN s.hp) z 0 0 0))), s.n⟩ := by
  intro ρ a w hs
  rw [nth_eq] at hi hj
  have h1 := rel_new hs.rel (s := z) (xs := []) (l := ⟨0, 0, 0, 0⟩) (w' := w) rfl (by simp) rfl rfl rfl (fun _ _ h => h) (Nat.le_refl _) (fun h => absurd h (Nat.lt_irrefl 0)) (fun k x hx => by simp at hx)
  rw [← snoc_eq] at h1
  have hlt := lt_of_get hi
  have hi2 : (snoc s.hp (.vec z []))[i]? = some (.var cs) := by rw [snoc_eq, List.getElem?_append_left hlt]; exact hi
  have h2 := rel_reread h1.2 (i := i) (cs := cs) (cs' := setN cs j (.vs (lenN s.hp) z 0 0 0)) hi2 (fun vs hv => by
    obtain ⟨v, hv1, hv2⟩ := hv.get hj
    have := hv.set (n := j) (a := .vs (lenN s.hp) z 0 0 0) (b := v) (by
      have := val_nils hv2; subst this
      refine ⟨1, by rw [snoc_eq, lenN_eq]; simp, none, 0, 0, rfl, rfl, Nat.le_refl _, fun h => absurd h (Nat.lt_irrefl 0), 0, rfl, by simp, fun _ h => absurd h (Nat.lt_irrefl 0)⟩)
    rwa [set_same hv1] at this)
  have hst := h1.1.trans' h2.1
  exact ⟨ρ.tipAt s.hp.length ⟨0, 0, 0, 0⟩, ⟨hs.defers, hs.size, h2.2, fun t => (hs.vals t).keep hst.keeps⟩, hst.le hn⟩
theorem loop_turn_at {J : Jd} (hJ : J = std P n₀) (ht : TabOk P tab) {c : Code} {Q : Ex → St → Prop} {s : St} {β : Type} (T : β → St) (inv : β → Prop) (μ : β → Nat) (b0 : β) (h0 : inv b0) (hle : Turn n₀ s (T b0)) (hn : ∀ b, n₀ ≤ (T b).hp.length)
    (round : ∀ b, inv b → ∀ N : St → Prop, (∀ s' b', inv b' → μ b' < μ b → Turn n₀ s' (T b') → N s') → awp J tab c (thenQ N Q) (T b)) : J.code (.loop c) Q s := by
  subst hJ
  have rnd : ∀ b, inv b → CodeA P n₀ c (thenQ (fun s' => ∃ b', inv b' ∧ μ b' < μ b ∧ Turn n₀ s' (T b')) Q) (T b) :=
    fun b hb => awp_sound ht _ _ _ (round b hb _ fun s' b' h1 h2 h3 => ⟨b', h1, h2, h3⟩)
  have key : ∀ n (bb : β), μ bb = n → inv bb → ∀ rd ρ a w, IsRound rd w → RelS ρ (T bb) a w → ∀ (b : Frame) (k : List Item) (cs : List Frame), b.roundOf = rd →
      ∃ e a' w', Post n₀ ρ (T bb).hp w Q e a' w' ∧ ArrivesIn (Machine.fenced P (fen rd)) P (lone (b.atR a (.code c :: .inLoop c :: k)) cs w) b k cs e a' w' := by
    intro n
    induction n using Nat.strongRecOn with
    | _ n ih =>
      intro bb hμ hinv rd ρ a w hrd hr b k cs hro
      have room : ∀ m, (fen rd).room m := fun m d hd => by simp [Fence.wide] at hd
      obtain ⟨e, a₁, w₁, ⟨x1, s1, ρ1, hq, hx, hr1, hst⟩, harr⟩ := rnd bb hinv rd ρ a w (hn bb) hrd hr b (.inLoop c :: k) cs hro trivial (room _)
      cases x1 with
      | normal =>
        simp only [exOk] at hx; subst hx
        obtain ⟨b', hinv', hlt, hle'⟩ := hq
        obtain ⟨ρ2, hr', hst'⟩ := hle' ρ1 a₁ w₁ hr1
        obtain ⟨e₂, a₂, w₂, hq₂, harr₂⟩ := ih (μ b') (hμ ▸ hlt) b' rfl hinv' rd ρ2 a₁ w₁ (hrd.step hst) hr' b k cs hro
        exact ⟨e₂, a₂, w₂, seq_post (hst.trans hst' (Nat.le_refl _)) hq₂, .of_steps (StepsIn.trans harr (.one (fenced_calm (n := 0) trivial (room _) rfl) stepR_inLoop)) harr₂⟩
      | exit i => simp only [exOk] at hx; subst hx; exact ⟨_, a₁, w₁, ⟨.exit i, s1, ρ1, hq, rfl, hr1, hst⟩, .pass (x := .inLoop c) rfl (fun _ _ => .inl (by simp)) harr⟩
      | ret => simp only [exOk] at hx; subst hx; exact ⟨_, a₁, w₁, ⟨.ret, s1, ρ1, hq, rfl, hr1, hst⟩, .pass (x := .inLoop c) rfl (fun _ _ => .inl (by simp)) harr⟩
      | pan x => obtain ⟨v, rfl, hv⟩ := hx; exact ⟨_, a₁, w₁, ⟨.pan x, s1, ρ1, hq, ⟨v, rfl, hv⟩, hr1, hst⟩, .pass (x := .inLoop c) rfl (fun _ _ => .inl (by simp)) harr⟩
  intro rd ρ a w hn0 hrd hs b k cs hro hb hroom
  obtain ⟨ρ0, hr0, hst0⟩ := hle ρ a w hs
  obtain ⟨e, a', w', hq, harr⟩ := key _ b0 rfl h0 rd ρ0 a w hrd hr0 b k cs hro
  exact ⟨e, a', w', seq_post hst0 hq, .of_steps (.one (fenced_calm (n := 0) hb hroom rfl) stepR_loop) harr⟩
end
end Go.Pt
namespace Go.Pt
open Go
def Wk (a b : AV) : Prop := ∀ (w : World) (S : Nat → Nat → Prop) (ρ : Ro) (n : Nat) (v : Value), Val w S ρ n a v → Val w S ρ n b v
def WkL : List AV → List AV → Prop
  | [], [] => True
  | a :: l, b :: m => Wk a b ∧ WkL l m
  | _, _ => False
def WkE : List AV → List AV → Prop
  | [], [] => True
  | a :: l, b :: m => WkL a.cells b.cells ∧ WkE l m
  | _, _ => False
theorem Wk.rfl' {a : AV} : Wk a a := fun _ _ _ _ _ h => h
theorem WkL.vals {w : World} {S : Nat → Nat → Prop} {ρ : Ro} {n : Nat} : ∀ {l m : List AV} {vs : List Value}, WkL l m → All2 (Val w S ρ n) l vs → All2 (Val w S ρ n) m vs
  | [], [], _, _, h => h
  | _ :: _, _ :: _, [], _, h => h.elim
  | _ :: _, _ :: _, _ :: _, ⟨h1, h2⟩, ⟨h3, h4⟩ => ⟨h1 _ _ _ _ _ h3, WkL.vals h2 h4⟩
  | [], _ :: _, _, h, _ => h.elim
  | _ :: _, [], _, h, _ => h.elim
theorem WkE.get : ∀ {l m : List AV}, WkE l m → l.length = m.length ∧ ∀ (i : Nat) y, m[i]? = some y → ∃ x, l[i]? = some x ∧ WkL x.cells y.cells
  | [], [], _ => ⟨rfl, fun i y h => by simp at h⟩
  | a :: l, b :: m, ⟨h1, h2⟩ => ⟨by simp [(WkE.get h2).1], fun i y h => by
      cases i with
      | zero => simp at h; subst h; exact ⟨a, rfl, h1⟩
      | succ i => simpa using (WkE.get h2).2 i y (by simpa using h)⟩
  | [], _ :: _, h => h.elim
  | _ :: _, [], h => h.elim
theorem Wk.bl {b : Bool} : Wk (.bl b) (.bool b) := fun _ _ _ _ _ h => by rw [val_bl h]; exact ⟨1, rfl⟩
theorem Wk.agg {l m : List AV} (h : WkL l m) : Wk (.agg l) (.agg m) := fun w S ρ n v hv => by
  obtain ⟨vs, rfl, h1⟩ := val_agg hv
  obtain ⟨d, hd⟩ := all2_depth (h.vals h1)
  exact ⟨d + 1, vs, rfl, hd⟩
theorem Wk.nils {s : Nat} : Wk .nils (.sl s [] .no) := fun w S ρ n v hv => by
  rw [val_nils hv]
  exact ⟨1, none, 0, 0, rfl, rfl, Nat.le_refl _, trivial, fun h => absurd rfl h⟩
theorem Wk.sl {s : Nat} {xs ys : List AV} {t : Tok} (h : WkE xs ys) : Wk (.sl s xs t) (.sl s ys .no) := fun w S ρ n v hv => by
  obtain ⟨ad, len, cap, rfl, hl, hc, _, hne⟩ := val_sl hv
  obtain ⟨g1, g2⟩ := h.get
  refine val_sl_mk (hl.trans g1) hc trivial fun hy => ?_
  have hx : xs ≠ [] := fun e => hy (List.eq_nil_of_length_eq_zero (by rw [← g1, e]; rfl))
  obtain ⟨b, o, e, he⟩ := hne hx
  refine ⟨b, o, e, fun i y hi => ?_⟩
  obtain ⟨x, hxi, hw⟩ := g2 i y hi
  obtain ⟨vs, k1, k2, k3⟩ := he i x hxi
  exact ⟨vs, hw.vals k1, k2, k3⟩
theorem call_weak {P : Program} {n₀ : Nat} {J : Jd} (hJ : J = std P n₀) {f : FuncId} {args args' : List AV} {σ : List Ent} {K E : AV → List Ent → Prop} (hw : WkL args args') (h : J.call f args' σ K E) : J.call f args σ K E := by
  subst hJ
  exact ⟨h.1, fun ρ w vs hrel hvs => h.2 ρ w vs hrel (hw.vals hvs)⟩
theorem rel_tip0 {ρ : Ro} {σ : List Ent} {w : World} (h : Rel ρ σ w) : Stp ρ σ w (ρ.tipAt σ.length ⟨0, 0, 0, 0⟩) (σ ++ [.tip 0]) w ∧ Rel (ρ.tipAt σ.length ⟨0, 0, 0, 0⟩) (σ ++ [.tip 0]) w := by
  have tn : (ρ.tipAt σ.length ⟨0, 0, 0, 0⟩).t σ.length = ⟨0, 0, 0, 0⟩ := by simp [Ro.tipAt]
  refine h.push (fun _ _ => rfl) (fun i hi => by simp [Ro.tipAt]; omega) rfl rfl rfl rfl rfl (fun _ _ h => h) (Nat.le_refl _) (fun b o ho => ?_) (fun hst => ?_)
  · simp only [OwnE, tn] at ho
    omega
  · simp only [EntOk, tn]
    exact ⟨trivial, Nat.le_refl _, fun h => absurd h (Nat.lt_irrefl 0)⟩
theorem turn_tip {n₀ : Nat} {s : St} (i j z : Nat) {cs : List AV} (hi : nth s.hp i = some (.var cs)) (hj : nth cs j = some .nils) (hn : n₀ ≤ s.hp.length) :
    Turn n₀ s ⟨s.env, setN (snoc s.hp (.tip 0)) i (.var (setN cs j (.sl z [] (.tip (lenN s.hp) 0)))), s.n⟩ := by
  intro ρ a w hs
  rw [nth_eq] at hi hj
  have h1 := rel_tip0 hs.rel
  rw [← snoc_eq] at h1
  have hlt := lt_of_get hi
  have hi2 : (snoc s.hp (.tip 0))[i]? = some (.var cs) := by rw [snoc_eq, List.getElem?_append_left hlt]; exact hi
  have h2 := rel_reread h1.2 (i := i) (cs := cs) (cs' := setN cs j (.sl z [] (.tip (lenN s.hp) 0))) hi2 (fun vs hv => by
    obtain ⟨v, hv1, hv2⟩ := hv.get hj
    have := hv.set (n := j) (a := .sl z [] (.tip (lenN s.hp) 0)) (b := v) (by
      have := val_nils hv2; subst this
      refine val_sl_mk rfl (Nat.le_refl _) ⟨by rw [snoc_eq, lenN_eq]; simp, Nat.zero_le _, fun _ => ?_⟩ (fun h => absurd rfl h)
      have tn : (ρ.tipAt s.hp.length ⟨0, 0, 0, 0⟩).t (lenN s.hp) = ⟨0, 0, 0, 0⟩ := by rw [lenN_eq]; simp [Ro.tipAt]
      rw [tn]
      exact ⟨by simp, fun h => absurd h (Nat.lt_irrefl 0)⟩)
    rwa [set_same hv1] at this)
  have hst := h1.1.trans' h2.1
  exact ⟨ρ.tipAt s.hp.length ⟨0, 0, 0, 0⟩, ⟨hs.defers, hs.size, h2.2, fun t => (hs.vals t).keep hst.keeps⟩, hst.le hn⟩
end Go.Pt
