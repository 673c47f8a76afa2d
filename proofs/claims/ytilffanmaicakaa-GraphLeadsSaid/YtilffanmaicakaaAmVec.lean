/- Rows of elements that may be written: what a step does to them. -/
import Derived.Test.YtilffanmaicakaaAmStep
import Derived.Laws.IdiomCopy
namespace Go.Pt
open Go

section
variable {P : Program} {n₀ : Nat} {tab : Nat → Ty} {w : World} {ρ : Ro} {σ : List Ent}

theorem setCells_heap (b : Nat) : ∀ (vs : List Value) (k : Nat) (w : World) {c : Array Value} {e : TypeId} {f : Nat × Nat}, w.heap[b]? = some (.cells c e f) →
    ∃ c' : Array Value, (w.setCells b k vs).heap[b]? = some (.cells c' e f) ∧ c'.size = c.size ∧ (∀ j : Nat, j < k ∨ k + vs.length ≤ j → c'[j]? = c[j]?) ∧ (k + vs.length ≤ c.size → ∀ (j : Nat) u, vs[j]? = some u → c'[k + j]? = some u)
  | [], k, w, c, e, f, h => ⟨c, h, rfl, fun _ _ => rfl, fun _ j u hu => by simp at hu⟩
  | v :: vs, k, w, c, e, f, h => by
    have h1 : (w.setCell ⟨b, k, none⟩ v).heap[b]? = some (.cells (c.setIfInBounds k v) e f) := by simp [World.setCell, Array.getElem?_modify, h]
    obtain ⟨c', g1, g2, g3, g4⟩ := setCells_heap b vs (k + 1) _ h1
    refine ⟨c', g1, by simpa using g2, fun j hj => ?_, fun hle j u hu => ?_⟩
    · rw [g3 j (by simp at hj; omega), Array.getElem?_setIfInBounds]
      simp at hj
      rw [if_neg (by omega)]
    · cases j with
      | zero =>
        simp at hu; subst hu
        rw [Nat.add_zero, g3 k (by omega), Array.getElem?_setIfInBounds]
        simp at hle ⊢; omega
      | succ j =>
        have := g4 (by simp at hle ⊢; omega) j u (by simpa using hu)
        rwa [show k + 1 + j = k + (j + 1) by omega] at this

theorem setCells_other (b : Nat) : ∀ (vs : List Value) (k : Nat) (w : World) (g : Nat), g ≠ b → (w.setCells b k vs).heap[g]? = w.heap[g]?
  | [], _, _, _, _ => rfl
  | v :: vs, k, w, g, h => by
    rw [World.setCells, setCells_other b vs _ _ g h]
    simp only [World.setCell, Array.getElem?_modify]
    rw [if_neg (fun e => h e.symm)]

theorem setCells_same (b : Nat) : ∀ (vs : List Value) (k : Nat) (w : World), (w.setCells b k vs).heap.size = w.heap.size ∧ (w.setCells b k vs).os = w.os ∧ (w.setCells b k vs).tape = w.tape ∧ (w.setCells b k vs).output = w.output
  | [], _, _ => ⟨rfl, rfl, rfl, rfl⟩
  | v :: vs, k, w => by
    obtain ⟨h1, h2, h3, h4⟩ := setCells_same b vs (k + 1) (w.setCell ⟨b, k, none⟩ v)
    exact ⟨by rw [World.setCells, h1]; simp, by rw [World.setCells, h2]; rfl, by rw [World.setCells, h3]; rfl, by rw [World.setCells, h4]; rfl⟩

/-- The tip's new place. -/
def Ro.tipAt (ρ : Ro) (id : Nat) (l : Loc) : Ro := ⟨ρ.b, fun i => if i = id then l else ρ.t i, ρ.x, ρ.m⟩

theorem own_lt (h : Rel ρ σ w) {i b o : Nat} {e : Ent} (hi : σ[i]? = some e) (hf : OwnE ρ i b o e) : b < w.heap.size := by
  have hk := h.ents i e hi
  cases e with
  | var cs => obtain ⟨vs, e, _, h2⟩ := hk; simp only [OwnE] at hf; subst hf; exact lt_of_heap h2
  | mp es => obtain ⟨ms, c, h1, _⟩ := hk; simp only [OwnE] at hf; subst hf; exact lt_of_heap h1
  | lp ps asg body env k st pe => obtain ⟨r, h1, _⟩ := hk; simp only [OwnE] at hf; subst hf; exact lt_of_heap h1
  | tip pos => obtain ⟨_, _, h3⟩ := hk; obtain ⟨rfl, h4, h5⟩ := hf; obtain ⟨c, e, f, g1, _⟩ := h3 (by omega); exact lt_of_heap g1
  | vec s xs => obtain ⟨_, _, h3, _⟩ := hk; obtain ⟨rfl, h4, h5⟩ := hf; obtain ⟨c, e, f, g1, _⟩ := h3 (by omega); exact lt_of_heap g1
  | dead => exact hf.elim

/-- A row's block, and each of its cells. -/
theorem vec_cells {s : Nat} {xs : List AV} {S : Nat → Nat → Prop} {n i : Nat} (h : EntOk w S ρ n i (.vec s xs)) {q k : Nat} (h1 : (ρ.t i).start ≤ q) (h2 : q + k ≤ (ρ.t i).stop) :
    ∀ j, j < k → (w.cell? ⟨(ρ.t i).blk, q + j, none⟩).isSome = true ∧ w.frozen? ⟨(ρ.t i).blk, q + j, none⟩ = false := by
  intro j hj
  obtain ⟨_, _, h3, _⟩ := h
  obtain ⟨c, e, f, g1, g2, g3⟩ := h3 (by omega)
  refine ⟨?_, g3 _ (by omega) (by omega)⟩
  have hlt : q + j < c.size := by omega
  simp [World.cell?, g1, hlt]

/-- Cells of a row are written. -/
theorem rel_row (h : Rel ρ σ w) {id s : Nat} {xs xs' : List AV} (hid : σ[id]? = some (.vec s xs)) {q : Nat} {news : List Value} (h1 : (ρ.t id).start ≤ q) (h2 : q + news.length ≤ (ρ.t id).stop)
    (hl : (ρ.t id).start + xs'.length * s ≤ (ρ.t id).stop)
    (he : ∀ (k : Nat) x, xs'[k]? = some x → ∃ vs, All2 (Val w (Stay ρ σ) ρ 0) x.cells vs ∧ vs.length = s ∧ ∀ (j : Nat) u, vs[j]? = some u → cellAt (w.setCells (ρ.t id).blk q news) (ρ.t id).blk ((ρ.t id).start + k * s + j) = some u ∧ u.oneCell' = true) :
    Stp ρ σ w ρ (setN σ id (.vec s xs')) (w.setCells (ρ.t id).blk q news) ∧ Rel ρ (setN σ id (.vec s xs')) (w.setCells (ρ.t id).blk q news) := by
  obtain ⟨hp, _, hblk, _⟩ := h.ents id _ hid
  obtain ⟨q1, q2, q3, q4⟩ := setCells_same (ρ.t id).blk news q w
  have hlen : (setN σ id (.vec s xs')).length = σ.length := by rw [setN_eq]; simp
  have hown : ∀ b o, Own ρ (setN σ id (.vec s xs')) b o ↔ Own ρ σ b o := by
    intro b o
    constructor
    · rintro ⟨i, f, hi, ho⟩
      rcases get_set hi with ⟨rfl, rfl⟩ | ⟨hne, hi⟩
      · exact ⟨i, _, hid, ho⟩
      · exact ⟨i, f, hi, ho⟩
    · rintro ⟨i, f, hi, ho⟩
      by_cases hne : i = id
      · subst hne
        rw [hid] at hi; simp at hi; subst hi
        exact ⟨i, .vec s xs', by rw [setN_eq]; simp [lt_of_get hid], ho⟩
      · exact ⟨i, f, by rw [setN_eq, List.getElem?_set]; simp [Ne.symm hne, hi], ho⟩
  have hfrm : ∀ (b : Nat) ob, w.heap[b]? = some ob → ∃ ob', (w.setCells (ρ.t id).blk q news).heap[b]? = some ob' ∧ okBlk (fun o => (ρ.t id).blk = b ∧ (ρ.t id).start ≤ o ∧ o < (ρ.t id).stop) ob ob' := by
    intro b ob hb
    by_cases hbb : b = (ρ.t id).blk
    · subst hbb
      by_cases hn : news = []
      · subst hn; exact ⟨ob, hb, okBlk.refl _ _⟩
      · have hpos : 0 < news.length := by cases news <;> simp_all
        obtain ⟨c, e, f, g1, g2, g3⟩ := hblk (by omega)
        rw [g1] at hb; simp only [Option.some.injEq] at hb; subst hb
        obtain ⟨c', k1, k2, k3, k4⟩ := setCells_heap (ρ.t id).blk news q w g1
        refine ⟨_, k1, c', rfl, k2, fun o ho => k3 o ?_⟩
        rcases Nat.lt_or_ge o q with hlt | hge
        · exact .inl hlt
        · right
          rcases Nat.lt_or_ge o (q + news.length) with hlt' | hge'
          · exact absurd ⟨rfl, by omega, by omega⟩ ho
          · exact hge'
    · exact ⟨ob, by rw [setCells_other _ _ _ _ _ hbb]; exact hb, okBlk.refl _ _⟩
  have mine : ∀ b o, ((ρ.t id).blk = b ∧ (ρ.t id).start ≤ o ∧ o < (ρ.t id).stop) → Own ρ σ b o := fun b o ho => ⟨id, _, hid, ho⟩
  have hst : Stp ρ σ w ρ (setN σ id (.vec s xs')) (w.setCells (ρ.t id).blk q news) := by
    refine ⟨q2, q3, q4, by rw [q1]; exact Nat.le_refl _, fun b ob hb => ?_, fun b o _ ho => (hown b o).1 ho, by omega, fun _ _ => rfl, fun _ _ => .inl rfl, rfl, rfl⟩
    obtain ⟨ob', k1, k2⟩ := hfrm b ob hb
    exact ⟨ob', k1, (okBlk.refl (Own ρ σ b) ob).trans k2 (fun o ho => mine b o ho)⟩
  refine ⟨hst, fun i f hi => ?_, fun i j f g b o hi hj hf hg => ?_, fun b o ho => by rw [q1]; exact h.xlt b o ho, fun b o ho => h.xown b o ((hown b o).1 ho)⟩
  · rcases get_set hi with ⟨rfl, rfl⟩ | ⟨hne, hi⟩
    · refine ⟨hp, hl, fun hlt => ?_, fun k x hx => ?_⟩
      · obtain ⟨c, e, f, g1, g2, g3⟩ := hblk hlt
        obtain ⟨c', k1, k2, _⟩ := setCells_heap (ρ.t i).blk news q w g1
        exact ⟨c', e, f, k1, by omega, fun o h1 h2 => by rw [World.frozen?_setCells]; exact g3 o h1 h2⟩
      · obtain ⟨vs, g1, g2, g3⟩ := he k x hx
        exact ⟨vs, g1.imp fun _ _ h => h.keep hst.keeps.zero, g2, g3⟩
    · refine (h.ents i f hi).keep hst.keeps (lt_of_get hi) rfl (fun hk => ?_) (fun hr hlt' c e' f' hc => ?_)
      · have hex : ∃ ob, w.heap[ρ.b i]? = some ob ∧ ∀ o', OwnE ρ i (ρ.b i) o' f := by
          have := h.ents i f hi
          cases f with
          | var cs => obtain ⟨vs, e, _, h2⟩ := this; exact ⟨_, h2, fun _ => rfl⟩
          | mp es => obtain ⟨ms, c, h1, _⟩ := this; exact ⟨_, h1, fun _ => rfl⟩
          | lp ps asg body env k st pe => obtain ⟨r, h1, _⟩ := this; exact ⟨_, h1, fun _ => rfl⟩
          | _ => simp [Ent.blk] at hk
        obtain ⟨ob, hob, hall⟩ := hex
        obtain ⟨ob', k1, k2⟩ := hfrm _ _ hob
        have hno : ∀ o', ¬ ((ρ.t id).blk = ρ.b i ∧ (ρ.t id).start ≤ o' ∧ o' < (ρ.t id).stop) := fun o' ho => hne (h.disj i id f _ (ρ.b i) o' hi hid (hall o') ho)
        rw [k1, hob]
        cases ob with
        | cells c e' f =>
          obtain ⟨c', rfl, h3, h4⟩ := k2
          congr 2
          apply Array.ext_getElem?
          intro j; exact h4 j (hno j)
        | loop r =>
          obtain ⟨r', rfl, _, h4⟩ := k2
          rcases h4 with h4 | h4
          · exact absurd h4 (hno 0)
          · rw [h4]
        | _ => rcases k2 with h2 | h2
               · exact absurd h2 (hno 0)
               · rw [h2]
      · obtain ⟨ob', k1, c', rfl, h3, h4⟩ := hfrm _ _ hc
        refine ⟨c', k1, h3, fun o' g1 g2 => h4 o' fun ho => hne (h.disj i id f _ (ρ.t i).blk o' hi hid ?_ ho)⟩
        cases f <;> first | (simp [Ent.row] at hr; done) | exact ⟨rfl, g1, g2⟩
  · have back : ∀ i f, (setN σ id (.vec s xs'))[i]? = some f → OwnE ρ i b o f → ∃ f', σ[i]? = some f' ∧ OwnE ρ i b o f' := by
      intro i f hi ho
      rcases get_set hi with ⟨rfl, rfl⟩ | ⟨hne, hi⟩
      · exact ⟨_, hid, ho⟩
      · exact ⟨f, hi, ho⟩
    obtain ⟨f', hi', hf'⟩ := back i f hi hf
    obtain ⟨g', hj', hg'⟩ := back j g hj hg
    exact h.disj i j f' g' b o hi' hj' hf' hg'

theorem el_lt {k n s j : Nat} (hk : k < n) (hj : j < s) : k * s + j < n * s := by
  calc k * s + j < k * s + s := by omega
    _ = (k + 1) * s := by rw [Nat.succ_mul]
    _ ≤ n * s := Nat.mul_le_mul_right s hk

/-- Elements are laid upon a row, from the p-th on. -/
theorem rel_lay (h : Rel ρ σ w) {id s : Nat} {xs ys : List AV} (hid : σ[id]? = some (.vec s xs)) {p : Nat} {news : List Value} (hp : p ≤ xs.length) (hroom : (ρ.t id).start + (p + ys.length) * s ≤ (ρ.t id).stop)
    (hn : news.length = ys.length * s) (h1 : ∀ u ∈ news, u.oneCell' = true)
    (hy : ∀ (k : Nat) y, ys[k]? = some y → ∃ vs, All2 (Val w (Stay ρ σ) ρ 0) y.cells vs ∧ vs.length = s ∧ ∀ (j : Nat) u, vs[j]? = some u → news[k * s + j]? = some u) :
    Stp ρ σ w ρ (setN σ id (.vec s (xs.take p ++ ys ++ xs.drop (p + ys.length)))) (w.setCells (ρ.t id).blk ((ρ.t id).start + p * s) news) ∧
      Rel ρ (setN σ id (.vec s (xs.take p ++ ys ++ xs.drop (p + ys.length)))) (w.setCells (ρ.t id).blk ((ρ.t id).start + p * s) news) := by
  obtain ⟨hpos, hlen, hblk, hel⟩ := h.ents id _ hid
  have hps : (p + ys.length) * s = p * s + ys.length * s := Nat.add_mul _ _ _
  have hend : (ρ.t id).start + p * s + news.length ≤ (ρ.t id).stop := by rw [hn]; omega
  refine rel_row h hid (by omega) hend ?_ fun k x hx => ?_
  · simp only [List.length_append, List.length_take, List.length_drop, Nat.min_eq_left hp]
    rcases Nat.le_total (p + ys.length) xs.length with hle | hle
    · rw [Nat.add_sub_cancel' hle]; exact hlen
    · rw [Nat.sub_eq_zero_of_le hle, Nat.add_zero]; exact hroom
  -- a cell of the row, behind the writes
  have cell : ∀ o, (ρ.t id).start ≤ o → o < (ρ.t id).stop → (o < (ρ.t id).start + p * s ∨ (ρ.t id).start + p * s + news.length ≤ o) → cellAt (w.setCells (ρ.t id).blk ((ρ.t id).start + p * s) news) (ρ.t id).blk o = cellAt w (ρ.t id).blk o := by
    intro o g1 g2 g3
    obtain ⟨c, e, f, q1, q2, q3⟩ := hblk (by omega)
    obtain ⟨c', k1, k2, k3, k4⟩ := setCells_heap (ρ.t id).blk news ((ρ.t id).start + p * s) w q1
    rw [cellAt_cells k1, cellAt_cells q1, k3 o g3]
  have cell' : ∀ (j : Nat) u, news[j]? = some u → cellAt (w.setCells (ρ.t id).blk ((ρ.t id).start + p * s) news) (ρ.t id).blk ((ρ.t id).start + p * s + j) = some u := by
    intro j u hu
    have hj := lt_of_get hu
    obtain ⟨c, e, f, q1, q2, q3⟩ := hblk (by omega)
    obtain ⟨c', k1, k2, k3, k4⟩ := setCells_heap (ρ.t id).blk news ((ρ.t id).start + p * s) w q1
    rw [cellAt_cells k1]
    exact k4 (by omega) j u hu
  have old : ∀ x, xs[k]? = some x → (k < p ∨ p + ys.length ≤ k) → ∃ vs, All2 (Val w (Stay ρ σ) ρ 0) x.cells vs ∧ vs.length = s ∧ ∀ (j : Nat) u, vs[j]? = some u → cellAt (w.setCells (ρ.t id).blk ((ρ.t id).start + p * s) news) (ρ.t id).blk ((ρ.t id).start + k * s + j) = some u ∧ u.oneCell' = true := by
    intro x hx hk
    obtain ⟨vs, g1, g2, g3⟩ := hel k x hx
    refine ⟨vs, g1, g2, fun j u hu => ?_⟩
    obtain ⟨g4, g5⟩ := g3 j u hu
    have hj := lt_of_get hu
    rw [g2] at hj
    have hb := el_lt (lt_of_get hx) hj
    refine ⟨?_, g5⟩
    rw [cell _ (by omega) (by omega) ?_]
    · exact g4
    · rcases hk with hk | hk
      · left
        have := el_lt hk hj; omega
      · right
        have := Nat.mul_le_mul_right s hk
        rw [hn]; omega
  rcases Nat.lt_or_ge k p with hkp | hkp
  · rw [List.append_assoc, List.getElem?_append_left (by simp; omega), List.getElem?_take, if_pos hkp] at hx
    exact old x hx (.inl hkp)
  · rw [List.append_assoc, List.getElem?_append_right (by simp; omega), List.length_take, Nat.min_eq_left hp] at hx
    rcases Nat.lt_or_ge (k - p) ys.length with hky | hky
    · rw [List.getElem?_append_left hky] at hx
      obtain ⟨vs, g1, g2, g3⟩ := hy _ x hx
      refine ⟨vs, g1, g2, fun j u hu => ?_⟩
      have := cell' _ u (g3 j u hu)
      rw [show (ρ.t id).start + p * s + ((k - p) * s + j) = (ρ.t id).start + k * s + j by
        have : k * s = p * s + (k - p) * s := by rw [← Nat.add_mul]; congr 1; omega
        omega] at this
      exact ⟨this, h1 u (List.mem_of_getElem? (g3 j u hu))⟩
    · rw [List.getElem?_append_right hky, List.getElem?_drop] at hx
      rw [show p + ys.length + (k - p - ys.length) = k by omega] at hx
      exact old x hx (.inr (by omega))

/-- A place is forgotten. -/
theorem rel_kill (h : Rel ρ σ w) (id : Nat) : Stp ρ σ w ρ (setN σ id .dead) w ∧ Rel ρ (setN σ id .dead) w := by
  have hlen : (setN σ id .dead).length = σ.length := by rw [setN_eq]; simp
  have hown : ∀ b o, Own ρ (setN σ id .dead) b o → Own ρ σ b o := by
    rintro b o ⟨i, f, hi, ho⟩
    rcases get_set hi with ⟨rfl, rfl⟩ | ⟨hne, hi⟩
    · exact ho.elim
    · exact ⟨i, f, hi, ho⟩
  have hst : Stp ρ σ w ρ (setN σ id .dead) w := ⟨rfl, rfl, rfl, Nat.le_refl _, fun b ob hb => ⟨ob, hb, okBlk.refl _ _⟩, fun b o _ ho => hown b o ho, by omega, fun _ _ => rfl, fun _ _ => .inl rfl, rfl, rfl⟩
  refine ⟨hst, fun i f hi => ?_, fun i j f g b o hi hj hf hg => ?_, h.xlt, fun b o ho => h.xown b o (hown b o ho)⟩
  · rcases get_set hi with ⟨rfl, rfl⟩ | ⟨hne, hi⟩
    · trivial
    · exact (h.ents i f hi).keep hst.keeps (lt_of_get hi) rfl (fun _ => rfl) (fun _ _ c e f hc => ⟨c, hc, rfl, fun _ _ _ => rfl⟩)
  · rcases get_set hi with ⟨rfl, rfl⟩ | ⟨hne, hi⟩
    · exact hf.elim
    · rcases get_set hj with ⟨rfl, rfl⟩ | ⟨hne', hj⟩
      · exact hg.elim
      · exact h.disj i j f g b o hi hj hf hg

/-- A row gets another number. -/
theorem rel_mv (h : Rel ρ σ w) {id s : Nat} {xs : List AV} (hid : σ[id]? = some (.vec s xs)) :
    Stp ρ σ w (ρ.tipAt σ.length (ρ.t id)) (setN σ id .dead ++ [.vec s xs]) w ∧ Rel (ρ.tipAt σ.length (ρ.t id)) (setN σ id .dead ++ [.vec s xs]) w := by
  have hidl := lt_of_get hid
  have hlen : (setN σ id .dead).length = σ.length := by rw [setN_eq]; simp
  have tb : ∀ i, i < σ.length → (ρ.tipAt σ.length (ρ.t id)).t i = ρ.t i := fun i hi => by simp [Ro.tipAt]; omega
  have tn : (ρ.tipAt σ.length (ρ.t id)).t σ.length = ρ.t id := by simp [Ro.tipAt]
  have split : ∀ {i f}, (setN σ id .dead ++ [.vec s xs])[i]? = some f → (i = id ∧ f = .dead) ∨ (i ≠ id ∧ i < σ.length ∧ σ[i]? = some f) ∨ (i = σ.length ∧ f = .vec s xs) := by
    intro i f hi
    rcases get_push hi with ⟨hl, hi⟩ | ⟨hl, rfl⟩
    · rw [hlen] at hl
      rcases get_set hi with ⟨rfl, rfl⟩ | ⟨hne, hi⟩
      · exact .inl ⟨rfl, rfl⟩
      · exact .inr (.inl ⟨hne, hl, hi⟩)
    · rw [hlen] at hl; exact .inr (.inr ⟨hl, rfl⟩)
  have who : ∀ {i f b o}, (setN σ id .dead ++ [.vec s xs])[i]? = some f → OwnE (ρ.tipAt σ.length (ρ.t id)) i b o f → ∃ j g, σ[j]? = some g ∧ OwnE ρ j b o g ∧ ((i ≠ id ∧ i < σ.length ∧ j = i) ∨ (i = σ.length ∧ j = id)) := by
    intro i f b o hi ho
    rcases split hi with ⟨rfl, rfl⟩ | ⟨hne, hl, hi⟩ | ⟨rfl, rfl⟩
    · exact ho.elim
    · exact ⟨i, f, hi, (OwnE.congr (by rfl) (tb i hl)).1 ho, .inl ⟨hne, hl, rfl⟩⟩
    · refine ⟨id, _, hid, ?_, .inr ⟨rfl, rfl⟩⟩
      simp only [OwnE, tn] at ho ⊢; exact ho
  have hown : ∀ b o, Own (ρ.tipAt σ.length (ρ.t id)) (setN σ id .dead ++ [.vec s xs]) b o → Own ρ σ b o := by
    rintro b o ⟨i, f, hi, ho⟩
    obtain ⟨j, g, h1, h2, _⟩ := who hi ho
    exact ⟨j, g, h1, h2⟩
  have hst : Stp ρ σ w (ρ.tipAt σ.length (ρ.t id)) (setN σ id .dead ++ [.vec s xs]) w :=
    ⟨rfl, rfl, rfl, Nat.le_refl _, fun b ob hb => ⟨ob, hb, okBlk.refl _ _⟩, fun b o _ ho => hown b o ho, by simp [hlen], fun _ _ => rfl, fun i hi => .inl (tb i hi), rfl, rfl⟩
  refine ⟨hst, fun i f hi => ?_, fun i j f g b o hi hj hf hg => ?_, h.xlt, fun b o ho => h.xown b o (hown b o ho)⟩
  · rcases split hi with ⟨rfl, rfl⟩ | ⟨hne, hl, hi⟩ | ⟨rfl, rfl⟩
    · trivial
    · exact (h.ents i f hi).keep hst.keeps hl (tb i hl) (fun _ => rfl) (fun _ _ c e f hc => ⟨c, hc, rfl, fun _ _ _ => rfl⟩)
    · have hk := (h.ents id _ hid).keep (w' := w) (e := .vec s xs) hst.keeps hidl (tb id hidl) (fun _ => rfl) (fun _ _ c e f hc => ⟨c, hc, rfl, fun _ _ _ => rfl⟩)
      simp only [EntOk, tn, tb id hidl] at hk ⊢
      exact hk
  · obtain ⟨i', f', h1, h2, h3⟩ := who hi hf
    obtain ⟨j', g', k1, k2, k3⟩ := who hj hg
    have := h.disj i' j' f' g' b o h1 k1 h2 k2
    subst this
    rcases h3 with ⟨a1, a2, a3⟩ | ⟨a1, a2⟩ <;> rcases k3 with ⟨b1, b2, b3⟩ | ⟨b1, b2⟩ <;> omega

/-- A new row, in a new block or without cells. -/
theorem rel_new (h : Rel ρ σ w) {s : Nat} {xs : List AV} {l : Loc} {w' : World} (hpos : l.pos = 0) (hlen : l.start + xs.length * s ≤ l.stop)
    (hos : w'.os = w.os) (htape : w'.tape = w.tape) (hout : w'.output = w.output) (hh : ∀ (k : Nat) ob, w.heap[k]? = some ob → w'.heap[k]? = some ob) (hsz : w.heap.size ≤ w'.heap.size)
    (hb : l.start < l.stop → w.heap.size ≤ l.blk ∧ ∃ c e f, w'.heap[l.blk]? = some (.cells c e f) ∧ l.stop ≤ c.size ∧ ∀ o, l.start ≤ o → o < l.stop → w'.frozen? ⟨l.blk, o, none⟩ = false)
    (he : ∀ (k : Nat) x, xs[k]? = some x → ∃ vs, All2 (Val w (Stay ρ σ) ρ 0) x.cells vs ∧ vs.length = s ∧ ∀ (j : Nat) u, vs[j]? = some u → cellAt w' l.blk (l.start + k * s + j) = some u ∧ u.oneCell' = true) :
    Stp ρ σ w (ρ.tipAt σ.length l) (σ ++ [.vec s xs]) w' ∧ Rel (ρ.tipAt σ.length l) (σ ++ [.vec s xs]) w' := by
  have tn : (ρ.tipAt σ.length l).t σ.length = l := by simp [Ro.tipAt]
  refine h.push (fun _ _ => rfl) (fun i hi => by simp [Ro.tipAt]; omega) rfl rfl hos htape hout hh hsz (fun b o ho => ?_) (fun hst => ?_)
  · simp only [OwnE, tn] at ho
    obtain ⟨rfl, h1, h2⟩ := ho
    exact (hb (by omega)).1
  · simp only [EntOk, tn]
    refine ⟨hpos, hlen, fun hlt => (hb hlt).2, fun k x hx => ?_⟩
    obtain ⟨vs, g1, g2, g3⟩ := he k x hx
    exact ⟨vs, g1.imp fun _ _ h => h.keep hst.keeps.zero, g2, g3⟩

theorem free_val {S : Nat → Nat → Prop} {n : Nat} {x y : AV} {v : Value} (h : x.free = some y) (hv : Val w S ρ n x v) : Val w S ρ 0 y v ∧ y.one = true := by
  obtain ⟨d, hv⟩ := hv
  cases d with
  | zero => exact hv.elim
  | succ d =>
    cases x <;> simp only [AV.free, Option.some.injEq, reduceCtorEq] at h <;> subst h <;> first
      | exact ⟨⟨d + 1, hv⟩, rfl⟩
      | skip
    rename_i s xs t
    obtain ⟨ad, len, cap, e, h1, h2, h3, h4⟩ := hv
    refine ⟨⟨d + 1, ad, len, cap, e, h1, h2, ?_, h4⟩, rfl⟩
    cases t <;> first | trivial | exact h3

theorem freeL_val {S : Nat → Nat → Prop} {n : Nat} : ∀ {xs ys : List AV} {vs : List Value}, freeL xs = some ys → All2 (Val w S ρ n) xs vs → All2 (Val w S ρ 0) ys vs ∧ ∀ y ∈ ys, y.one = true
  | [], ys, [], h, _ => by simp [freeL] at h; subst h; exact ⟨trivial, by simp⟩
  | x :: xs, ys, v :: vs, h, hv => by
    simp only [freeL] at h
    split at h
    · simp at h
    · rename_i y hy
      split at h
      · simp at h
      · rename_i l hl
        simp only [Option.some.injEq] at h; subst h
        obtain ⟨h1, h2⟩ := free_val hy hv.1
        obtain ⟨h3, h4⟩ := freeL_val hl hv.2
        exact ⟨⟨h1, h3⟩, by simpa [h2] using h4⟩
  | [], _, _ :: _, _, h => h.elim
  | _ :: _, _, [], _, h => h.elim

theorem cells_one {x : AV} (h : x.one = true) : x.cells = [x] := by cases x <;> first | rfl | simp [AV.one] at h

theorem val_vs {S : Nat → Nat → Prop} {n id s : Nat} {lo k N : Int} {v : Value} (h : Val w S ρ n (.vs id s lo k N) v) :
    id < n ∧ ∃ (ad : Option Addr) (len cap : Nat), v = .slice ad len cap ∧ k = len ∧ len ≤ cap ∧ (0 < cap → ∃ b o, ad = some ⟨b, o, none⟩) ∧ ∃ l : Nat, lo = l ∧ N ≤ ((l + cap : Nat) : Int) ∧
        ((ρ.t id).pos = 0 → 0 < cap → ad = some ⟨(ρ.t id).blk, (ρ.t id).start + l * s, none⟩ ∧ (ρ.t id).start + (l + cap) * s ≤ (ρ.t id).stop) := by
  obtain ⟨d, h⟩ := h; cases d with
  | zero => exact h.elim
  | succ d => exact h

theorem val_vp {S : Nat → Nat → Prop} {n id s off : Nat} {i : Int} {v : Value} (h : Val w S ρ n (.vp id s i off) v) :
    id < n ∧ ∃ b o, v = .pointer (some ⟨b, o, none⟩) ∧ ((ρ.t id).pos = 0 → ∃ k : Nat, i = k ∧ b = (ρ.t id).blk ∧ o = (ρ.t id).start + k * s + off) := by
  obtain ⟨d, h⟩ := h; cases d with
  | zero => exact h.elim
  | succ d => exact h

theorem freeL_one : ∀ {xs ys : List AV}, freeL xs = some ys → allOne xs = true
  | [], _, _ => rfl
  | x :: xs, ys, h => by
    simp only [freeL] at h
    split at h
    · simp at h
    · rename_i y hy
      split at h
      · simp at h
      · rename_i l hl
        have hx : x.one = true := by cases x <;> first | rfl | simp [AV.free] at hy
        simp only [allOne, hx]
        exact freeL_one hl

theorem unc_cells {x : AV} {ys : List AV} (h : freeL x.cells = some ys) (h1 : ∀ y ∈ ys, y.one = true) : (unc x ys).cells = ys := by
  by_cases hx : ∃ cs, x = .agg cs
  · obtain ⟨cs, rfl⟩ := hx; rfl
  · have e : x.cells = [x] := by cases x <;> first | rfl | exact absurd ⟨_, rfl⟩ hx
    have hl : ∃ y, ys = [y] := by
      rw [e] at h
      simp only [freeL] at h
      split at h
      · simp at h
      · rename_i y _; simp at h; exact ⟨y, h.symm⟩
    obtain ⟨y, rfl⟩ := hl
    have hy := cells_one (h1 y (by simp))
    cases x <;> first | exact hy | exact absurd ⟨_, rfl⟩ hx

end
end Go.Pt
