/- Each operation that the abstract machine does is one that the model does: rows: append, clear, make. -/
import Derived.Test.YtilffanmaicakaaAmOps5
import Derived.Laws.MakeOwn
namespace Go.Pt
open Go

section
variable {P : Program} {n₀ : Nat} {tab : Nat → Ty} {w : World} {ρ : Ro} {s : St} {a : Act} {o : Oper} {K E : AV → List Ent → Prop} {next : Act → World → Prop} {Q : Exit → Act → World → Prop}

theorem zeroV_val {S : Nat → Nat → Prop} {n : Nat} (ht : TabOk P tab) {t : TypeId} {z : AV} (h : (tab t).zeroV = some z) : ∃ i d v, TyOk P t (tab t) i d v ∧ Val w S ρ n z v ∧ allOne z.cells = true := by
  unfold Ty.zeroV at h
  split at h
  case h_2 => simp at h
  rename_i hok
  split at h
  case h_2 => simp at h
  rename_i hone
  obtain ⟨i, d, zv, hty⟩ := ht.ok hok
  refine ⟨i, d, zv, hty, ?_, ?_⟩
  case refine_2 =>
    split at h
    · simp only [Option.some.injEq] at h; subst h; exact hone
    · rename_i ha
      have h1 := hty.one ha
      have hl := hty.zsize
      rw [h1] at hl
      have hzl : (tab t).zero.length = 1 := by rw [hty.zeros]; simp [hl]
      rcases hz0 : (tab t).zero with _ | ⟨a, l⟩
      · rw [hz0] at hzl; simp at hzl
      · rw [hz0] at h hone hzl
        simp only [nth, Option.some.injEq] at h; subst h
        simp only [allOne] at hone
        split at hone
        · rename_i h1a
          rw [cells_one h1a]; simp [allOne, h1a]
        · simp at hone
  have hl := lits_val (w := w) (S := S) (ρ := ρ) (n := n) zv.cells.toList
  rw [← hty.zeros] at hl
  split at h
  · rename_i ha
    simp at h; subst h
    have : ∃ cs : Array Value, zv = .agg cs := by
      have := hty.zagg
      rw [ha] at this
      cases zv <;> simp [isAggV] at this
      exact ⟨_, rfl⟩
    obtain ⟨cs, rfl⟩ := this
    obtain ⟨d', hd⟩ := all2_depth hl
    exact ⟨d' + 1, cs.toList, by simp, hd⟩
  · rename_i ha
    have h1 := hty.one ha
    have h2 := hty.zsize
    rw [h1] at h2
    have hz := hty.zagg
    rw [ha] at hz
    have hc : ∃ u, zv.cells = #[u] := by
      rcases hcs : zv.cells with ⟨l⟩
      rw [hcs] at h2
      match l, h2 with
      | [], h2 => simp at h2
      | [u], _ => exact ⟨u, rfl⟩
      | _ :: _ :: _, h2 => simp at h2
    obtain ⟨u, hu⟩ := hc
    have hzu : zv = u := by
      cases zv <;> simp [isAggV] at hz <;> simp [Value.cells] at hu <;> exact hu
    rw [nth_eq] at h
    obtain ⟨v, g1, g2⟩ := hl.get h
    rw [hu] at g1
    simp at g1; subst g1
    rw [hzu]; exact g2


/-- Elements' cells, one behind the other. -/
theorem flat_row {R : Nat → Value → Prop} {S : Nat → Nat → Prop} {size k0 : Nat} : ∀ {xs : List AV}, (∀ (i : Nat) x, xs[i]? = some x → ∃ us, All2 (Val w S ρ 0) x.cells us ∧ us.length = size ∧ ∀ (j : Nat) u, us[j]? = some u → R (k0 + i * size + j) u) →
    ∃ all : List Value, all.length = xs.length * size ∧ (∀ (j : Nat) u, all[j]? = some u → R (k0 + j) u) ∧ ∀ (i : Nat) x, xs[i]? = some x → ∃ us, All2 (Val w S ρ 0) x.cells us ∧ us.length = size ∧ ∀ (j : Nat) u, us[j]? = some u → all[i * size + j]? = some u := by
  intro xs
  induction xs generalizing k0 with
  | nil => intro _; exact ⟨[], by simp, fun j u hu => by simp at hu, fun i x h => by simp at h⟩
  | cons x xs ih =>
    intro h
    obtain ⟨all, h1, h2, h3⟩ := ih (k0 := k0 + size) (fun i y hy => by
      have := h (i + 1) y (by simpa using hy)
      rwa [Nat.succ_mul, Nat.add_comm (i * size) size, ← Nat.add_assoc] at this)
    obtain ⟨us, g1, g2, g3⟩ := h 0 x rfl
    refine ⟨us ++ all, by simp [h1, g2, Nat.succ_mul, Nat.add_comm], fun j u hu => ?_, fun i y hy => ?_⟩
    · by_cases hj : j < us.length
      · rw [List.getElem?_append_left hj] at hu
        have := g3 j u hu
        simpa using this
      · rw [List.getElem?_append_right (Nat.le_of_not_lt hj)] at hu
        have := h2 _ u hu
        rwa [g2, show k0 + size + (j - size) = k0 + j by omega] at this
    · cases i with
      | zero =>
        simp at hy; subst hy
        exact ⟨us, g1, g2, fun j u hu => by rw [Nat.zero_mul, Nat.zero_add, List.getElem?_append_left (lt_of_get hu)]; exact hu⟩
      | succ i =>
        obtain ⟨vs, k1, k2, k3⟩ := h3 i y (by simpa using hy)
        refine ⟨vs, k1, k2, fun j u hu => ?_⟩
        rw [Nat.succ_mul, Nat.add_comm (i * size) size, Nat.add_assoc, List.getElem?_append_right (by omega), g2, show size + (i * size + j) - size = i * size + j by omega]
        exact k3 j u hu

/-- What is appended, told in worlds of this memory alone. -/
structure Apq (P : Program) (w : World) (S : Nat → Nat → Prop) (ρ : Ro) (size : Nat) (tx : TypeId) (x : Value) (ys : List AV) (news : List Value) : Prop where
  src : ∀ w' : World, w'.heap = w.heap → Src P size tx x ys.length news w'
  cells : ∀ (i : Nat) y, ys[i]? = some y → ∃ vs, All2 (Val w S ρ 0) y.cells vs ∧ vs.length = size ∧ ∀ (j : Nat) u, vs[j]? = some u → news[i * size + j]? = some u

theorem cellAt_heap {w w' : World} (h : w'.heap = w.heap) (b o : Nat) : cellAt w' b o = cellAt w b o := by
  simp only [cellAt, World.cell?, h]

theorem Apq.of {S : Nat → Nat → Prop} {size : Nat} {tx : TypeId} {x : Value} {ys : List AV} {news : List Value} (h : Apps P w S ρ size tx x ys news) : Apq P w S ρ size tx x ys news :=
  ⟨fun w' hw => h.src w' fun b o u _ hu => by rw [cellAt_heap hw]; exact hu, h.cells⟩

/-- Some of a row's elements. -/
theorem Apq.ofVs {u e' : TypeId} (hu : P.underlying u = some (.slice e')) {S : Nat → Nat → Prop} {n m z id : Nat} {xs : List AV} {lo k N : Int} {v : Value} (he : EntOk w S ρ m id (.vec z xs)) (hv : Val w S ρ n (.vs id z lo k N) v)
    (h0 : 0 ≤ lo) (h1 : 0 ≤ k) (h2 : lo + k ≤ xs.length) : ∃ news, Apq P w S ρ z u v ((xs.take (lo + k).toNat).drop lo.toNat) news := by
  obtain ⟨hp, hl, _, hel⟩ := he
  obtain ⟨_, ad, len, cap, rfl, rfl, hcap, hadr, hloc⟩ := val_vs hv
  obtain ⟨l, rfl, hN, ha⟩ := hloc
  replace ha := ha hp
  rw [Int.toNat_natCast]
  have hlen : ((xs.take ((l : Int) + len).toNat).drop l).length = len := by simp; omega
  obtain ⟨all, g1, g2, g3⟩ := flat_row (xs := (xs.take ((l : Int) + len).toNat).drop l) (size := z) (k0 := (ρ.t id).start + l * z) (w := w) (ρ := ρ) (S := S) (R := fun o u => cellAt w (ρ.t id).blk o = some u ∧ u.oneCell' = true) (fun i x hi => by
    rw [List.getElem?_drop, List.getElem?_take] at hi
    split at hi
    · obtain ⟨vs, a1, a2, a3⟩ := hel _ x hi
      refine ⟨vs, a1, a2, fun j u hj => ?_⟩
      rw [Nat.add_assoc ((ρ.t id).start), ← Nat.add_mul]; exact a3 j u hj
    · simp at hi)
  refine ⟨all, ⟨fun w' hw => ?_, g3⟩⟩
  rw [hlen] at g1 ⊢
  by_cases hc : cap = 0
  · have : len = 0 := by omega
    subst this
    have : all = [] := List.eq_nil_of_length_eq_zero (by rw [g1]; simp)
    subst this
    cases ad with
    | none => exact Src.ofNil w' hu cap
    | some ad => exact Src.ofSlice w' hu ad 0 cap [] (by simp) (by simp) (by simp)
  · obtain ⟨rfl, _⟩ := ha (by omega)
    refine Src.ofSlice w' hu _ _ cap all g1 (fun j x hx => ?_) (fun x hx => ?_)
    · have := (g2 j x hx).1
      rw [← cellAt_heap hw] at this
      simp only [cellAt] at this
      unfold Addr.add
      split
      · rename_i e; subst e; simpa using this
      · exact this
    · obtain ⟨j, hj⟩ := List.mem_iff_getElem?.1 hx
      exact (g2 j x hj).2

theorem asSl_val {size : Nat} {x : AV} {xs : List AV} {tk : Tok} {v : Value} (h : asSl size x = some (xs, tk)) (hv : Val w (Stay ρ s.hp) ρ s.hp.length x v) : Val w (Stay ρ s.hp) ρ s.hp.length (.sl size xs tk) v := by
  unfold asSl at h
  split at h
  · split at h
    · rename_i hz
      simp only [Option.some.injEq, Prod.mk.injEq] at h
      obtain ⟨rfl, rfl⟩ := h
      rw [Nat.eq_of_beq_eq_true hz]; exact hv
    · simp at h
  · simp only [Option.some.injEq, Prod.mk.injEq] at h
    obtain ⟨rfl, rfl⟩ := h
    rw [val_nils hv]
    exact val_sl_mk rfl (Nat.le_refl _) rfl (fun h => absurd rfl h)
  · simp at h

theorem srcV_sound (ht : TabOk P tab) {u : TypeId} {e : Ty} {y : AV} {v : Value} {ys : List AV} {p : Prop} (h : srcV (std P n₀) (tab u) e y s.hp = some (ys, p)) (hp : p) (hs : RelS ρ s a w) (hv : Val w (Stay ρ s.hp) ρ s.hp.length y v) :
    ∃ news, Apq P w (Stay ρ s.hp) ρ e.size u v ys news := by
  unfold srcV at h
  split at h
  · rename_i hu
    have huu := und_slice ht hu
    split at h
    · split at h
      case h_2 => simp at h
      rename_i hz
      split at h
      case h_2 => simp at h
      rename_i z' xs hid
      split at h
      case h_2 => simp at h
      rename_i hz'
      have e1 := Nat.eq_of_beq_eq_true hz
      have e2 := Nat.eq_of_beq_eq_true hz'
      subst e1 e2
      simp only [Option.some.injEq, Prod.mk.injEq] at h
      obtain ⟨rfl, rfl⟩ := h
      rw [nth_eq] at hid
      obtain ⟨p1, p2, p3⟩ := hp
      exact Apq.ofVs huu (hs.rel.ents _ _ hid) hv p1 p2 p3
    · split at h
      · rename_i ys' tk hy
        simp only [Option.some.injEq, Prod.mk.injEq] at h
        obtain ⟨rfl, rfl⟩ := h
        have hv' : Val w (Stay ρ s.hp) ρ s.hp.length (.sl e.size ys' tk) v := asSl_val hy hv
        obtain ⟨news, ha, _⟩ := Apps.ofSl huu hv'
        exact ⟨news, Apq.of ha⟩
      · simp at h
  · rename_i hu
    split at h
    case h_2 => simp at h
    rename_i hz
    split at h
    case h_2 => simp at h
    rename_i b
    simp only [Option.some.injEq, Prod.mk.injEq] at h
    obtain ⟨rfl, rfl⟩ := h
    have ha := Apps.ofStr (w := w) (ρ := ρ) ht hu (S := Stay ρ s.hp) b
    rw [Nat.eq_of_beq_eq_true hz, val_str hv]
    exact ⟨_, Apq.of ha⟩
  · simp at h


/-- A new row holds what was there and what is appended. -/
theorem row_grown (hs : RelS ρ s a w) {σ : List Ent} {ρ1 : Ro} (hst : Stp ρ s.hp w ρ1 σ w) (hr : Rel ρ1 σ w) {t u e : TypeId} {i : TypeInfo} {T : Ty} {d : TypeDesc} {z : Value} (hut : P.underlying t = some (.slice e)) (hty : TyOk P e T i d z)
    {xs ys : List AV} {ad : Option Addr} {len cap : Nat} {x : Value} {olds news : List Value} {ty : TypeId} (hx : Apq P w (Stay ρ s.hp) ρ T.size t (.slice ad len cap) xs olds) (hy : Apq P w (Stay ρ s.hp) ρ T.size u x ys news) (hl : len = xs.length)
    (hb : (xs.length + ys.length) * T.bytes ≤ 2 ^ 47) (hpos : 0 < T.bytes) (hg : cap < len + ys.length) :
    ∃ r w' ρ', (Builtin.append_ #[t, u] ty #[.slice ad len cap, x]).run P w = .ok r w' ∧ Val w' (Stay ρ' (σ ++ [Ent.vec T.size (xs ++ ys)])) ρ' (σ ++ [Ent.vec T.size (xs ++ ys)]).length (.vs σ.length T.size 0 ((xs ++ ys).length : Nat) ((xs ++ ys).length : Nat)) r ∧
      Stp ρ s.hp w ρ' (σ ++ [Ent.vec T.size (xs ++ ys)]) w' ∧ Rel ρ' (σ ++ [Ent.vec T.size (xs ++ ys)]) w' := by
  have hsrc := hy.src w rfl
  have hbi : T.bytes = i.bytes := hty.bytes
  have hsi : T.size = i.size := hty.size
  have hlen63 : xs.length + ys.length ≤ 2 ^ 47 := Nat.le_trans (Nat.le_mul_of_pos_right _ hpos) hb
  have hol : olds.length = xs.length * T.size := (hx.src w rfl).newsLen
  have hnl : news.length = ys.length * T.size := hsrc.newsLen
  have h1 := (hx.src w.drew rfl).cells
  rw [← hl] at h1
  have hrun := run_append_grow_src w t u ty e i z hut hty.info hty.zero ad len cap olds (by rw [← hsi]; exact h1) x ys.length news (by rw [← hsi]; exact hsrc) hg (by omega)
    (growslice_fits hg (by rw [← hbi, hl]; exact hb))
  obtain ⟨g, hgd⟩ : ∃ g, g = grownCap w (len + ys.length) cap e := ⟨_, rfl⟩
  have hge : len + ys.length ≤ g := hgd ▸ grownCap_ge w (len + ys.length) cap e
  rw [← hgd] at hrun
  obtain ⟨c, hc⟩ : ∃ c, c = (olds ++ news).toArray ++ Builtin.zeroCells z.cells (g - (len + ys.length)) := ⟨_, rfl⟩
  rw [← hc] at hrun
  have hcs : c.size = g * T.size := by
    rw [hc]; simp [Builtin.zeroCells, hol, hnl, hty.zsize, ← hl]
    rw [← Nat.add_mul, ← Nat.add_mul]; congr 1; omega
  have hcc : ∀ (j : Nat) v, (olds ++ news)[j]? = some v → c[j]? = some v := by
    intro j v hj
    rw [hc, Array.getElem?_append_left (by simpa using lt_of_get hj)]
    simpa using hj
  have hcap : (xs ++ ys).length ≤ g := by simp; omega
  have hnew := rel_new hr (s := T.size) (xs := xs ++ ys) (l := ⟨w.heap.size, 0, g * T.size, 0⟩) (w' := w.drew.alloc (.cells c e)) rfl (by simpa using Nat.mul_le_mul_right T.size hcap) rfl rfl rfl
    (fun _ _ h => heap_alloc_old (w := w.drew) h) (by rw [World.size_alloc]; simp)
    (fun _ => ⟨Nat.le_refl _, c, e, (0, 0), heap_alloc_new (w := w.drew), by simp [hcs], fun o' _ _ => World.frozen?_alloc_new w.drew c e o'⟩)
    (fun k x' hx' => by
      have cell : ∀ (j : Nat) v, (olds ++ news)[j]? = some v → cellAt (w.drew.alloc (.cells c e)) w.heap.size j = some v := by
        intro j v hj
        exact (cellAt_cells (heap_alloc_new (w := w.drew))).trans (hcc j v hj)
      rcases Nat.lt_or_ge k xs.length with hlt | hge'
      · rw [List.getElem?_append_left hlt] at hx'
        obtain ⟨vs, a1, a2, a3⟩ := hx.cells k x' hx'
        refine ⟨vs, a1.imp fun _ _ h => h.keep hst.keeps.zero, a2, fun j v hj => ⟨?_, ?_⟩⟩
        · have := a3 j v hj
          rw [Nat.zero_add]
          exact cell _ _ (by rw [List.getElem?_append_left (lt_of_get this)]; exact this)
        · exact (hx.src w rfl).one _ (List.mem_of_getElem? (a3 j v hj))
      · rw [List.getElem?_append_right hge'] at hx'
        obtain ⟨vs, a1, a2, a3⟩ := hy.cells _ x' hx'
        refine ⟨vs, a1.imp fun _ _ h => h.keep hst.keeps.zero, a2, fun j v hj => ⟨?_, ?_⟩⟩
        · have := a3 j v hj
          rw [Nat.zero_add]
          refine cell _ _ ?_
          have e1 : k * T.size = xs.length * T.size + (k - xs.length) * T.size := by rw [← Nat.add_mul]; congr 1; omega
          rw [List.getElem?_append_right (by rw [hol]; omega), hol, e1, show xs.length * T.size + (k - xs.length) * T.size + j - xs.length * T.size = (k - xs.length) * T.size + j by omega]
          exact this
        · exact hsrc.one _ (List.mem_of_getElem? (a3 j v hj)))
  refine ⟨_, _, _, hrun, ?_, hst.trans' hnew.1, hnew.2⟩
  refine ⟨1, by simp, _, _, _, rfl, by simp [hl], hge, fun _ => ⟨_, _, rfl⟩, 0, rfl, ?_, fun _ _ => ?_⟩
  · simp; omega
  · simp [Ro.tipAt]

theorem sound_apV {t u e : TypeId} {md : Nat} {z : Value} {i : TypeInfo} {d : TypeDesc} (ht : TabOk P tab) (hut : P.underlying t = some (.slice e)) (hty : TyOk P e (tab e) i d z) (hs : RelS ρ s a w)
    {x y : AV} {v1 v2 : Value} {ty : TypeId} (h1 : Val w (Stay ρ s.hp) ρ s.hp.length x v1) (h2 : Val w (Stay ρ s.hp) ρ s.hp.length y v2) (h : apV (std P n₀) md (tab u) (tab e) x y s.hp K) :
    ∃ r w' ρ' σ' av, (Builtin.append_ #[t, u] ty #[v1, v2]).run P w = .ok r w' ∧ K av σ' ∧ Val w' (Stay ρ' σ') ρ' σ'.length av r ∧ Stp ρ s.hp w ρ' σ' w' ∧ Rel ρ' σ' w' := by
  unfold apV at h
  split at h
  case h_2 => exact h.elim
  rename_i hbp
  have hbp' : 0 < (tab e).bytes := by simpa [Nat.blt_eq] using hbp
  split at h
  case h_2 => exact h.elim
  rename_i hsp
  have hsp' : 0 < (tab e).size := by simpa [Nat.blt_eq] using hsp
  split at h
  · exact h.elim
  rename_i ys p hy
  obtain ⟨hp, h⟩ := h
  obtain ⟨news, hya⟩ := srcV_sound ht hy hp hs h2
  have hsrc := hya.src w rfl
  have hnl : news.length = ys.length * (tab e).size := hsrc.newsLen
  have hsi : (tab e).size = i.size := hty.size
  have nothing : ∀ {ad : Option Addr} {len cap : Nat}, len ≤ cap → ys = [] → (Builtin.append_ #[t, u] ty #[.slice ad len cap, v2]).run P w = .ok (.slice ad len cap) w := by
    intro ad len cap hle e0
    subst e0
    have : news = [] := List.eq_nil_of_length_eq_zero (by rw [hnl]; simp)
    subst this
    exact run_append_nothing w t u ty _ i hut hty.info ad len cap hle v2 (by rw [← hsi]; exact hsrc)
  split at h
  · rename_i id zz lo n N
    split at h
    case h_2 => exact h.elim
    rename_i hz
    have hz' := Nat.eq_of_beq_eq_true hz
    subst hz'
    split at h
    case h_2 => exact h.elim
    rename_i z' xs hid
    split at h
    case h_2 => exact h.elim
    rename_i hzz
    have hzz' := Nat.eq_of_beq_eq_true hzz
    subst hzz'
    rw [nth_eq] at hid
    have hent := hs.rel.ents id _ hid
    have hent' := hent
    obtain ⟨hpos, hfit, hblk, hel⟩ := hent'
    have hv1 := h1
    obtain ⟨hidl, ad, len, cap, rfl, rfl, hcap, hadr, hloc⟩ := val_vs h1
    obtain ⟨l, rfl, hN, ha⟩ := hloc
    replace ha := ha hpos
    -- there is room
    have room : ∀ {q : Nat}, q = l + len → len + ys.length ≤ cap → 0 < cap → (Builtin.append_ #[t, u] ty #[.slice ad len cap, v2]).run P w = .ok (.slice ad (len + ys.length) cap) (w.setCells (ρ.t id).blk ((ρ.t id).start + q * (tab e).size) news) ∧ (ρ.t id).start + (q + ys.length) * (tab e).size ≤ (ρ.t id).stop := by
      intro q hq hr hc0
      obtain ⟨rfl, hend⟩ := ha hc0
      have hle : (ρ.t id).start + (q + ys.length) * (tab e).size ≤ (ρ.t id).stop := by
        have := Nat.mul_le_mul_right (tab e).size (show q + ys.length ≤ l + cap by omega); omega
      have hoff : (ρ.t id).start + l * (tab e).size + len * i.size = (ρ.t id).start + q * (tab e).size := by rw [← hsi, hq, Nat.add_mul]; omega
      have hcc := vec_cells hent (q := (ρ.t id).start + q * (tab e).size) (k := news.length) (by omega) (by rw [hnl]; rw [Nat.add_mul] at hle; omega)
      have hrun := run_append_room_src w t u ty _ i hut hty.info (ρ.t id).blk ((ρ.t id).start + l * (tab e).size) len cap v2 ys.length news (by rw [← hsi]; exact hsrc) hr
        (fun j hj => by rw [hoff]; exact (hcc j hj).1) (fun j hj => by rw [hoff]; exact (hcc j hj).2)
      rw [hoff] at hrun
      exact ⟨hrun, hle⟩
    split at h
    · -- a row by itself
      obtain ⟨e1, e2, hroom, h⟩ := h
      replace e1 : (l : Int) = 0 := e1
      replace e2 : (len : Int) = (xs.length : Nat) := e2
      replace hroom : (xs.length + ys.length) * (tab e).bytes ≤ 2 ^ 47 := hroom
      rw [lenN_eq, snoc_eq] at h
      replace h : K (.vs s.hp.length (tab e).size 0 ((xs ++ ys).length : Nat) ((xs ++ ys).length : Nat)) (setN s.hp id .dead ++ [.vec (tab e).size (xs ++ ys)]) := h
      have e1 : l = 0 := by omega
      have e2 : len = xs.length := by omega
      subst e1 e2
      have hdl : (setN s.hp id .dead).length = s.hp.length := by rw [setN_eq]; simp
      by_cases hr : xs.length + ys.length ≤ cap
      · -- in its own block
        have hfin : ∃ w1, (Builtin.append_ #[t, u] ty #[.slice ad xs.length cap, v2]).run P w = .ok (.slice ad (xs.length + ys.length) cap) w1 ∧ Stp ρ s.hp w ρ (setN s.hp id (.vec (tab e).size (xs ++ ys))) w1 ∧ Rel ρ (setN s.hp id (.vec (tab e).size (xs ++ ys))) w1 := by
          by_cases hc0 : 0 < cap
          · obtain ⟨hrun, hle⟩ := room (q := xs.length) (by omega) hr hc0
            have hst := rel_lay hs.rel (ys := ys) (p := xs.length) (news := news) hid (Nat.le_refl _) hle hnl hsrc.one hya.cells
            have e' : xs.take xs.length ++ ys ++ xs.drop (xs.length + ys.length) = xs ++ ys := by
              rw [List.take_length, List.drop_eq_nil_of_le (by omega), List.append_nil]
            rw [e'] at hst
            exact ⟨_, hrun, hst⟩
          · have hy0 : ys = [] := List.eq_nil_of_length_eq_zero (by omega)
            have hrun := nothing (ad := ad) hcap hy0
            have hst := rel_row hs.rel (xs' := xs) (q := (ρ.t id).start) (news := []) hid (Nat.le_refl _) (by simp; omega) hfit hel
            subst hy0
            simp only [World.setCells] at hst
            simp only [List.append_nil, List.length_nil, Nat.add_zero]
            exact ⟨w, hrun, hst⟩
        obtain ⟨w1, hrun, hst1, hr1⟩ := hfin
        have hid1 : (setN s.hp id (.vec (tab e).size (xs ++ ys)))[id]? = some (.vec (tab e).size (xs ++ ys)) := by rw [setN_eq]; simp [hidl]
        have hmv := rel_mv hr1 hid1
        have hsl : (setN s.hp id (.vec (tab e).size (xs ++ ys))).length = s.hp.length := by rw [setN_eq]; simp
        have hss : setN (setN s.hp id (.vec (tab e).size (xs ++ ys))) id .dead = setN s.hp id .dead := by rw [setN_eq, setN_eq, setN_eq, List.set_set]
        rw [hsl, hss] at hmv
        refine ⟨_, w1, _, _, _, hrun, h, ?_, hst1.trans' hmv.1, hmv.2⟩
        refine ⟨1, by simp [hdl], ad, _, _, rfl, by simp, hr, hadr, 0, rfl, ?_, fun _ hc => ?_⟩
        · simp; omega
        · obtain ⟨g1, g2⟩ := ha hc
          simp only [Ro.tipAt, if_true]
          exact ⟨g1, g2⟩
      · -- in a new one
        have hxa : ∃ olds, Apq P w (Stay ρ s.hp) ρ (tab e).size t (.slice ad xs.length cap) xs olds := by
          obtain ⟨olds, ho⟩ := Apq.ofVs hut hent hv1 (Int.le_refl 0) (by omega) (by omega)
          refine ⟨olds, ?_⟩
          have e' : (xs.take ((0 : Nat) + (xs.length : Int)).toNat).drop (Int.toNat (0 : Nat)) = xs := by simp
          rwa [e'] at ho
        obtain ⟨olds, hxa⟩ := hxa
        have hk := rel_kill hs.rel id
        obtain ⟨r, w', ρ', q1, q2, q3, q4⟩ := row_grown (ty := ty) hs hk.1 hk.2 hut hty hxa hya rfl hroom hbp' (by omega)
        rw [hdl] at q2
        exact ⟨r, w', ρ', _, _, q1, h, q2, q3, q4⟩
    · -- a piece of a row
      obtain ⟨p1, p2, p3, p4, hroom, h⟩ := h
      replace p3 : (l : Int) + len + (ys.length : Nat) ≤ N := p3
      replace p4 : (l : Int) + len + (ys.length : Nat) ≤ (xs.length : Nat) := p4
      replace h : K (.vs id (tab e).size l ((len : Int) + (ys.length : Nat)) N) (setN s.hp id (.vec (tab e).size (xs.take ((l : Int) + len).toNat ++ ys ++ xs.drop (((l : Int) + len).toNat + ys.length)))) := h
      have hr : len + ys.length ≤ cap := by omega
      have hq : ((l : Int) + len).toNat = l + len := by omega
      rw [hq] at h
      have hfin : ∃ w1, (Builtin.append_ #[t, u] ty #[.slice ad len cap, v2]).run P w = .ok (.slice ad (len + ys.length) cap) w1 ∧ Stp ρ s.hp w ρ (setN s.hp id (.vec (tab e).size (xs.take (l + len) ++ ys ++ xs.drop (l + len + ys.length)))) w1 ∧ Rel ρ (setN s.hp id (.vec (tab e).size (xs.take (l + len) ++ ys ++ xs.drop (l + len + ys.length)))) w1 := by
        by_cases hc0 : 0 < cap
        · obtain ⟨hrun, hle⟩ := room (q := l + len) rfl hr hc0
          exact ⟨_, hrun, rel_lay hs.rel (ys := ys) (p := l + len) (news := news) hid (by omega) hle hnl hsrc.one hya.cells⟩
        · have hy0 : ys = [] := List.eq_nil_of_length_eq_zero (by omega)
          have hrun := nothing (ad := ad) hcap hy0
          have hst := rel_row hs.rel (xs' := xs) (q := (ρ.t id).start) (news := []) hid (Nat.le_refl _) (by simp; omega) hfit hel
          subst hy0
          simp only [World.setCells] at hst
          simp only [List.append_nil, List.length_nil, Nat.add_zero, List.take_append_drop]
          exact ⟨w, hrun, hst⟩
      obtain ⟨w1, hrun, hst1, hr1⟩ := hfin
      refine ⟨_, w1, _, _, _, hrun, h, ?_, hst1, hr1⟩
      exact ⟨1, by rw [setN_eq]; simpa using hidl, ad, _, _, rfl, by simp, hr, hadr, l, rfl, hN, fun _ hc => ha hc⟩
  · rename_i hnv
    split at h
    case h_2 => exact h.elim
    rename_i xs hx
    obtain ⟨e1, hroom, h⟩ := h
    replace e1 : xs = [] := e1
    subst e1
    replace hroom : (0 + ys.length) * (tab e).bytes ≤ 2 ^ 47 := hroom
    rw [lenN_eq, snoc_eq] at h
    replace h : K (.vs s.hp.length (tab e).size 0 (ys.length : Nat) (ys.length : Nat)) (s.hp ++ [.vec (tab e).size ys]) := h
    have hx' := asSl_val hx h1
    obtain ⟨ad, len, cap, rfl, hl, hcap, hfull, hne⟩ := val_sl hx'
    replace hfull : cap = len := hfull
    simp only [List.length_nil] at hl
    subst hl
    subst hfull
    by_cases hy0 : ys = []
    · have hrun := nothing (ad := ad) (Nat.le_refl 0) hy0
      subst hy0
      have hnew := rel_new hs.rel (s := (tab e).size) (xs := []) (l := ⟨0, 0, 0, 0⟩) (w' := w) rfl (by simp) rfl rfl rfl (fun _ _ h => h) (Nat.le_refl _) (fun hlt => by simp at hlt) (fun k x hk => by simp at hk)
      refine ⟨_, w, _, _, _, hrun, h, ?_, hnew.1, hnew.2⟩
      exact ⟨1, by simp, ad, 0, 0, rfl, by simp, Nat.le_refl _, fun hlt => by simp at hlt, 0, rfl, by simp, fun _ hlt => by simp at hlt⟩
    · have hyl : 0 < ys.length := by cases ys <;> simp_all
      obtain ⟨olds, hxa, _⟩ := Apps.ofSl hut hx'
      obtain ⟨r, w', ρ', q1, q2, q3, q4⟩ := row_grown (ty := ty) (xs := []) hs (Stp.refl _ _ _) hs.rel hut hty (Apq.of hxa) hya rfl (by simpa using hroom) hbp' (by omega)
      rw [List.nil_append] at q2 q3 q4
      exact ⟨r, w', ρ', _, _, q1, h, q2, q3, q4⟩

end
end Go.Pt
