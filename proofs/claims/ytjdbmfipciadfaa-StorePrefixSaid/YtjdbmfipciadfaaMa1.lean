/- Rows of elements that may be written: what a step does to them. -/import Derived.Test.YtjdbmfipciadfaaMa0
import Derived.Laws.IdiomCopy
import Derived.Laws.BytesString
import Derived.LaidEql
import Derived.Laws.AppendOwn
import Derived.Deep.AppendSrc
import Derived.Deep.Upon
namespace Go.Pt
open Go
section
variable {P : Program} {n₀ : Nat} {tab : Nat → Ty} {w : World} {ρ : Ro} {σ : List Ent}
theorem setCells_heap (b : Nat) : ∀ (vs : List Value) (k : Nat) (w : World) {c : Array Value} {e : TypeId} {f : Nat × Nat}, w.heap[b]? = some (.cells c e f) →
    ∃ c' : Array Value, (w.setCells b k vs).heap[b]? = some (.cells c' e f) ∧ c'.size = c.size ∧ (∀ j : Nat, j < k ∨ k + vs.length ≤ j → c'[j]? = c[j]?) ∧ (k + vs.length ≤ c.size → ∀ (j : Nat) u, vs[j]? = some u → c'[k + j]? = some u)
  | [], k, w, c, e, f, h => ⟨c, h, rfl, fun _ _ => rfl, fun _ j u hu => by simp at hu⟩
  | v :: vs, k, w, c, e, f, h => by
    have h1 : (w.setCell ⟨b, k, none⟩ v).heap[b]? = some (.cells (c.setIfInBounds k v) e f) := by simp [World.setCell, Array.getElem?_modify, h]
    obtain ⟨c', g1, g2, g3, g4⟩ := setCells_heap b vs (k + 1) _ h1
    refine ⟨c', g1, by simpa using g2, fun j hj => ?_, fun hle j u hu => ?_⟩
    · rw [g3 j (by simp at hj; omega), Array.getElem?_setIfInBounds]
      simp at hj
      rw [if_neg (by omega)]
    · cases j with
      | zero =>
        simp at hu; subst hu
        rw [Nat.add_zero, g3 k (by omega), Array.getElem?_setIfInBounds]
        simp at hle ⊢; omega
      | succ j =>
        have := g4 (by simp at hle ⊢; omega) j u (by simpa using hu)
        rwa [show k + 1 + j = k + (j + 1) by omega] at this
theorem setCells_other (b : Nat) : ∀ (vs : List Value) (k : Nat) (w : World) (g : Nat), g ≠ b → (w.setCells b k vs).heap[g]? = w.heap[g]?
  | [], _, _, _, _ => rfl
  | v :: vs, k, w, g, h => by
    rw [World.setCells, setCells_other b vs _ _ g h]
    simp only [World.setCell, Array.getElem?_modify]
    rw [if_neg (fun e => h e.symm)]
theorem setCells_same (b : Nat) : ∀ (vs : List Value) (k : Nat) (w : World), (w.setCells b k vs).heap.size = w.heap.size ∧ (w.setCells b k vs).os = w.os ∧ (w.setCells b k vs).tape = w.tape ∧ (w.setCells b k vs).output = w.output
  | [], _, _ => ⟨rfl, rfl, rfl, rfl⟩
  | v :: vs, k, w => by
    obtain ⟨h1, h2, h3, h4⟩ := setCells_same b vs (k + 1) (w.setCell ⟨b, k, none⟩ v)
    exact ⟨by rw [World.setCells, h1]; simp, by rw [World.setCells, h2]; rfl, by rw [World.setCells, h3]; rfl, by rw [World.setCells, h4]; rfl⟩
def Ro.tipAt (ρ : Ro) (id : Nat) (l : Loc) : Ro := ⟨ρ.b, fun i => if i = id then l else ρ.t i, ρ.x, ρ.m, ρ.g⟩
theorem own_lt (h : Rel ρ σ w) {i b o : Nat} {e : Ent} (hi : σ[i]? = some e) (hf : OwnE ρ i b o e) : b < w.heap.size := by
  have hk := h.ents i e hi
  cases e with
  | var cs => obtain ⟨vs, e, _, h2⟩ := hk; simp only [OwnE] at hf; subst hf; exact lt_of_heap h2
  | mp es => obtain ⟨ms, c, h1, _⟩ := hk; simp only [OwnE] at hf; subst hf; exact lt_of_heap h1
  | lp ps asg body env k st pe => obtain ⟨r, h1, _⟩ := hk; simp only [OwnE] at hf; subst hf; exact lt_of_heap h1
  | tip pos => obtain ⟨_, _, h3⟩ := hk; obtain ⟨rfl, h4, h5⟩ := hf; obtain ⟨c, e, f, g1, _⟩ := h3 (by omega); exact lt_of_heap g1
  | vec s xs => obtain ⟨_, _, h3, _⟩ := hk; obtain ⟨rfl, h4, h5⟩ := hf; obtain ⟨c, e, f, g1, _⟩ := h3 (by omega); exact lt_of_heap g1
  | fam t os => obtain ⟨j, hj, rfl⟩ := hf; obtain ⟨vs, e', h4⟩ := fam_cells h hi j hj; exact lt_of_heap h4
  | dead => exact hf.elim
theorem vec_cells {s : Nat} {xs : List AV} {S : Nat → Nat → Prop} {n i : Nat} (h : EntOk w S ρ n i (.vec s xs)) {q k : Nat} (h1 : (ρ.t i).start ≤ q) (h2 : q + k ≤ (ρ.t i).stop) :
    ∀ j, j < k → (w.cell? ⟨(ρ.t i).blk, q + j, none⟩).isSome = true ∧ w.frozen? ⟨(ρ.t i).blk, q + j, none⟩ = false := by
  intro j hj
  obtain ⟨_, _, h3, _⟩ := h
  obtain ⟨c, e, f, g1, g2, g3⟩ := h3 (by omega)
  refine ⟨?_, g3 _ (by omega) (by omega)⟩
  have hlt : q + j < c.size := by omega
  simp [World.cell?, g1, hlt]
theorem rel_row (h : Rel ρ σ w) {id s : Nat} {xs xs' : List AV} (hid : σ[id]? = some (.vec s xs)) {q : Nat} {news : List Value} (h1 : (ρ.t id).start ≤ q) (h2 : q + news.length ≤ (ρ.t id).stop)
    (hl : (ρ.t id).start + xs'.length * s ≤ (ρ.t id).stop)
    (he : ∀ (k : Nat) x, xs'[k]? = some x → ∃ vs, All2 (Val w (Stay ρ σ) ρ 0) x.cells vs ∧ vs.length = s ∧ ∀ (j : Nat) u, vs[j]? = some u → cellAt (w.setCells (ρ.t id).blk q news) (ρ.t id).blk ((ρ.t id).start + k * s + j) = some u ∧ u.oneCell' = true) :
    Stp ρ σ w ρ (setN σ id (.vec s xs')) (w.setCells (ρ.t id).blk q news) ∧ Rel ρ (setN σ id (.vec s xs')) (w.setCells (ρ.t id).blk q news) := by
  obtain ⟨hp, _, hblk, _⟩ := h.ents id _ hid
  obtain ⟨q1, q2, q3, q4⟩ := setCells_same (ρ.t id).blk news q w
  have hlen : (setN σ id (.vec s xs')).length = σ.length := by rw [setN_eq]; simp
  have hown : ∀ b o, Own ρ (setN σ id (.vec s xs')) b o ↔ Own ρ σ b o := by
    intro b o
    constructor
    · rintro ⟨i, f, hi, ho⟩
      rcases get_set hi with ⟨rfl, rfl⟩ | ⟨hne, hi⟩
      · exact ⟨i, _, hid, ho⟩
      · exact ⟨i, f, hi, ho⟩
    · rintro ⟨i, f, hi, ho⟩
      by_cases hne : i = id
      · subst hne
        rw [hid] at hi; simp at hi; subst hi
        exact ⟨i, .vec s xs', by rw [setN_eq]; simp [lt_of_get hid], ho⟩
      · exact ⟨i, f, by rw [setN_eq, List.getElem?_set]; simp [Ne.symm hne, hi], ho⟩
  have hfrm : ∀ (b : Nat) ob, w.heap[b]? = some ob → ∃ ob', (w.setCells (ρ.t id).blk q news).heap[b]? = some ob' ∧ okBlk (fun o => (ρ.t id).blk = b ∧ (ρ.t id).start ≤ o ∧ o < (ρ.t id).stop) ob ob' := by
    intro b ob hb
    by_cases hbb : b = (ρ.t id).blk
    · subst hbb
      by_cases hn : news = []
      · subst hn; exact ⟨ob, hb, okBlk.refl _ _⟩
      · have hpos : 0 < news.length := by cases news <;> simp_all
        obtain ⟨c, e, f, g1, g2, g3⟩ := hblk (by omega)
        rw [g1] at hb; simp only [Option.some.injEq] at hb; subst hb
        obtain ⟨c', k1, k2, k3, k4⟩ := setCells_heap (ρ.t id).blk news q w g1
        refine ⟨_, k1, c', rfl, k2, fun o ho => k3 o ?_⟩
        rcases Nat.lt_or_ge o q with hlt | hge
        · exact .inl hlt
        · right
          rcases Nat.lt_or_ge o (q + news.length) with hlt' | hge'
          · exact absurd ⟨rfl, by omega, by omega⟩ ho
          · exact hge'
    · exact ⟨ob, by rw [setCells_other _ _ _ _ _ hbb]; exact hb, okBlk.refl _ _⟩
  have mine : ∀ b o, ((ρ.t id).blk = b ∧ (ρ.t id).start ≤ o ∧ o < (ρ.t id).stop) → Own ρ σ b o := fun b o ho => ⟨id, _, hid, ho⟩
  have hst : Stp ρ σ w ρ (setN σ id (.vec s xs')) (w.setCells (ρ.t id).blk q news) := by
    refine ⟨q2, q3, q4, by rw [q1]; exact Nat.le_refl _, fun b ob hb => ?_, fun b o _ ho => (hown b o).1 ho, by omega, fun _ _ => rfl, fun _ _ => .inl rfl, rfl, rfl, .set (fun _ _ h => by cases h)⟩
    obtain ⟨ob', k1, k2⟩ := hfrm b ob hb
    exact ⟨ob', k1, (okBlk.refl (Own ρ σ b) ob).trans k2 (fun o ho => mine b o ho)⟩
  refine ⟨hst, fun i f hi => ?_, fun i j f g b o hi hj hf hg => ?_, fun b o ho => by rw [q1]; exact h.xlt b o ho, fun b o ho => h.xown b o ((hown b o).1 ho), hst.gok h⟩
  · rcases get_set hi with ⟨rfl, rfl⟩ | ⟨hne, hi⟩
    · refine ⟨hp, hl, fun hlt => ?_, fun k x hx => ?_⟩
      · obtain ⟨c, e, f, g1, g2, g3⟩ := hblk hlt
        obtain ⟨c', k1, k2, _⟩ := setCells_heap (ρ.t i).blk news q w g1
        exact ⟨c', e, f, k1, by omega, fun o h1 h2 => by rw [World.frozen?_setCells]; exact g3 o h1 h2⟩
      · obtain ⟨vs, g1, g2, g3⟩ := he k x hx
        exact ⟨vs, g1.imp fun _ _ h => h.keep hst.keeps.zero, g2, g3⟩
    · refine (h.ents i f hi).keep hst.keeps (lt_of_get hi) rfl (fun hk => ?_) (fun hr hlt' c e' f' hc => ?_) (fun t os he => ⟨rfl, fun j hj => ?_⟩)
      · have hex : ∃ ob, w.heap[ρ.b i]? = some ob ∧ ∀ o', OwnE ρ i (ρ.b i) o' f := by
          have := h.ents i f hi
          cases f with
          | var cs => obtain ⟨vs, e, _, h2⟩ := this; exact ⟨_, h2, fun _ => rfl⟩
          | mp es => obtain ⟨ms, c, h1, _⟩ := this; exact ⟨_, h1, fun _ => rfl⟩
          | lp ps asg body env k st pe => obtain ⟨r, h1, _⟩ := this; exact ⟨_, h1, fun _ => rfl⟩
          | _ => simp [Ent.blk] at hk
        obtain ⟨ob, hob, hall⟩ := hex
        obtain ⟨ob', k1, k2⟩ := hfrm _ _ hob
        have hno : ∀ o', ¬ ((ρ.t id).blk = ρ.b i ∧ (ρ.t id).start ≤ o' ∧ o' < (ρ.t id).stop) := fun o' ho => hne (h.disj i id f _ (ρ.b i) o' hi hid (hall o') ho)
        rw [k1, hob]
        cases ob with
        | cells c e' f =>
          obtain ⟨c', rfl, h3, h4⟩ := k2
          congr 2
          apply Array.ext_getElem?
          intro j; exact h4 j (hno j)
        | loop r =>
          obtain ⟨r', rfl, _, h4⟩ := k2
          rcases h4 with h4 | h4
          · exact absurd h4 (hno 0)
          · rw [h4]
        | _ => rcases k2 with h2 | h2
               · exact absurd h2 (hno 0)
               · rw [h2]
      · obtain ⟨ob', k1, c', rfl, h3, h4⟩ := hfrm _ _ hc
        refine ⟨c', k1, h3, fun o' g1 g2 => h4 o' fun ho => hne (h.disj i id f _ (ρ.t i).blk o' hi hid ?_ ho)⟩
        cases f <;> first | (simp [Ent.row] at hr; done) | exact ⟨rfl, g1, g2⟩
      · subst he
        obtain ⟨vs, e', h4⟩ := fam_cells h hi j hj
        obtain ⟨ob', k1, c', rfl, h5, h6⟩ := hfrm _ _ h4
        rw [k1, h4]
        congr 2
        apply Array.ext_getElem?
        intro o
        exact h6 o fun ho => hne (h.disj i id _ _ _ o hi hid ⟨j, hj, rfl⟩ ho)
  · have back : ∀ i f, (setN σ id (.vec s xs'))[i]? = some f → OwnE ρ i b o f → ∃ f', σ[i]? = some f' ∧ OwnE ρ i b o f' := by
      intro i f hi ho
      rcases get_set hi with ⟨rfl, rfl⟩ | ⟨hne, hi⟩
      · exact ⟨_, hid, ho⟩
      · exact ⟨f, hi, ho⟩
    obtain ⟨f', hi', hf'⟩ := back i f hi hf
    obtain ⟨g', hj', hg'⟩ := back j g hj hg
    exact h.disj i j f' g' b o hi' hj' hf' hg'
theorem el_lt {k n s j : Nat} (hk : k < n) (hj : j < s) : k * s + j < n * s := by
  calc k * s + j < k * s + s := by omega
    _ = (k + 1) * s := by rw [Nat.succ_mul]
    _ ≤ n * s := Nat.mul_le_mul_right s hk
theorem rel_lay (h : Rel ρ σ w) {id s : Nat} {xs ys : List AV} (hid : σ[id]? = some (.vec s xs)) {p : Nat} {news : List Value} (hp : p ≤ xs.length) (hroom : (ρ.t id).start + (p + ys.length) * s ≤ (ρ.t id).stop)
    (hn : news.length = ys.length * s) (h1 : ∀ u ∈ news, u.oneCell' = true)
    (hy : ∀ (k : Nat) y, ys[k]? = some y → ∃ vs, All2 (Val w (Stay ρ σ) ρ 0) y.cells vs ∧ vs.length = s ∧ ∀ (j : Nat) u, vs[j]? = some u → news[k * s + j]? = some u) :
    Stp ρ σ w ρ (setN σ id (.vec s (xs.take p ++ ys ++ xs.drop (p + ys.length)))) (w.setCells (ρ.t id).blk ((ρ.t id).start + p * s) news) ∧
      Rel ρ (setN σ id (.vec s (xs.take p ++ ys ++ xs.drop (p + ys.length)))) (w.setCells (ρ.t id).blk ((ρ.t id).start + p * s) news) := by
  obtain ⟨hpos, hlen, hblk, hel⟩ := h.ents id _ hid
  have hps : (p + ys.length) * s = p * s + ys.length * s := Nat.add_mul _ _ _
  have hend : (ρ.t id).start + p * s + news.length ≤ (ρ.t id).stop := by rw [hn]; omega
  refine rel_row h hid (by omega) hend ?_ fun k x hx => ?_
  · simp only [List.length_append, List.length_take, List.length_drop, Nat.min_eq_left hp]
    rcases Nat.le_total (p + ys.length) xs.length with hle | hle
    · rw [Nat.add_sub_cancel' hle]; exact hlen
    · rw [Nat.sub_eq_zero_of_le hle, Nat.add_zero]; exact hroom
  have cell : ∀ o, (ρ.t id).start ≤ o → o < (ρ.t id).stop → (o < (ρ.t id).start + p * s ∨ (ρ.t id).start + p * s + news.length ≤ o) → cellAt (w.setCells (ρ.t id).blk ((ρ.t id).start + p * s) news) (ρ.t id).blk o = cellAt w (ρ.t id).blk o := by
    intro o g1 g2 g3
    obtain ⟨c, e, f, q1, q2, q3⟩ := hblk (by omega)
    obtain ⟨c', k1, k2, k3, k4⟩ := setCells_heap (ρ.t id).blk news ((ρ.t id).start + p * s) w q1
    rw [cellAt_cells k1, cellAt_cells q1, k3 o g3]
  have cell' : ∀ (j : Nat) u, news[j]? = some u → cellAt (w.setCells (ρ.t id).blk ((ρ.t id).start + p * s) news) (ρ.t id).blk ((ρ.t id).start + p * s + j) = some u := by
    intro j u hu
    have hj := lt_of_get hu
    obtain ⟨c, e, f, q1, q2, q3⟩ := hblk (by omega)
    obtain ⟨c', k1, k2, k3, k4⟩ := setCells_heap (ρ.t id).blk news ((ρ.t id).start + p * s) w q1
    rw [cellAt_cells k1]
    exact k4 (by omega) j u hu
  have old : ∀ x, xs[k]? = some x → (k < p ∨ p + ys.length ≤ k) → ∃ vs, All2 (Val w (Stay ρ σ) ρ 0) x.cells vs ∧ vs.length = s ∧ ∀ (j : Nat) u, vs[j]? = some u → cellAt (w.setCells (ρ.t id).blk ((ρ.t id).start + p * s) news) (ρ.t id).blk ((ρ.t id).start + k * s + j) = some u ∧ u.oneCell' = true := by
    intro x hx hk
    obtain ⟨vs, g1, g2, g3⟩ := hel k x hx
    refine ⟨vs, g1, g2, fun j u hu => ?_⟩
    obtain ⟨g4, g5⟩ := g3 j u hu
    have hj := lt_of_get hu
    rw [g2] at hj
    have hb := el_lt (lt_of_get hx) hj
    refine ⟨?_, g5⟩
    rw [cell _ (by omega) (by omega) ?_]
    · exact g4
    · rcases hk with hk | hk
      · left
        have := el_lt hk hj; omega
      · right
        have := Nat.mul_le_mul_right s hk
        rw [hn]; omega
  rcases Nat.lt_or_ge k p with hkp | hkp
  · rw [List.append_assoc, List.getElem?_append_left (by simp; omega), List.getElem?_take, if_pos hkp] at hx
    exact old x hx (.inl hkp)
  · rw [List.append_assoc, List.getElem?_append_right (by simp; omega), List.length_take, Nat.min_eq_left hp] at hx
    rcases Nat.lt_or_ge (k - p) ys.length with hky | hky
    · rw [List.getElem?_append_left hky] at hx
      obtain ⟨vs, g1, g2, g3⟩ := hy _ x hx
      refine ⟨vs, g1, g2, fun j u hu => ?_⟩
      have := cell' _ u (g3 j u hu)
      rw [show (ρ.t id).start + p * s + ((k - p) * s + j) = (ρ.t id).start + k * s + j by
        have : k * s = p * s + (k - p) * s := by rw [← Nat.add_mul]; congr 1; omega
        omega] at this
      exact ⟨this, h1 u (List.mem_of_getElem? (g3 j u hu))⟩
    · rw [List.getElem?_append_right hky, List.getElem?_drop] at hx
      rw [show p + ys.length + (k - p - ys.length) = k by omega] at hx
      exact old x hx (.inr (by omega))
theorem famOf_get {t : Nat} {h : List Ent} {j : Nat} {os : List AV} (e : famOf h t = some (j, os)) : h[j]? = some (.fam t os) := by
  unfold famOf at e
  split at e
  · rename_i t' os' hn
    split at e
    · rename_i hb
      have := beN_t hb; subst this
      simp only [Option.some.injEq, Prod.mk.injEq] at e
      obtain ⟨rfl, rfl⟩ := e
      rw [nth_eq] at hn; exact hn
    · simp at e
  · simp at e
theorem famOf_at {t : Nat} {h : List Ent} {j : Nat} {os : List AV} (e : famOf h t = some (j, os)) : j = t := by
  unfold famOf at e
  split at e
  · split at e
    · simp only [Option.some.injEq, Prod.mk.injEq] at e; exact e.1.symm
    · simp at e
  · simp at e
theorem fam_one {t j : Nat} {os : List AV} (h : Rel ρ σ w) (hj : σ[j]? = some (.fam t os)) (k : Nat) (os' : List AV) (hk : σ[k]? = some (.fam t os')) : k = j :=
  (h.ents k _ hk).1.symm.trans (h.ents j _ hj).1
theorem rel_fset (h : Rel ρ σ w) {id t j : Nat} {os : List AV} {x' : AV} {vs vs' : List Value} {e : TypeId} (hid : σ[id]? = some (.fam t os)) (hj : j < os.length)
    (hb : w.heap[ρ.g.f t j]? = some (.cells vs.toArray e (0, 0))) (hl : vs'.length = vs.length) (hv : All2 (Val w (Stay ρ σ) ρ 0) x'.cells vs') :
    Stp ρ σ w ρ (setN σ id (.fam t (os.set j x'))) (w.setRow (ρ.g.f t j) vs'.toArray) ∧ Rel ρ (setN σ id (.fam t (os.set j x'))) (w.setRow (ρ.g.f t j) vs'.toArray) := by
  have hheap : (w.setRow (ρ.g.f t j) vs'.toArray).heap[ρ.g.f t j]? = some (.cells vs'.toArray e (0, 0)) := by
    simp [World.setRow, Array.getElem?_modify, hb]
  have hlen : (setN σ id (.fam t (os.set j x'))).length = σ.length := by rw [setN_eq]; simp
  have mine : ∀ o, OwnE ρ id (ρ.g.f t j) o (.fam t os) := fun _ => ⟨j, hj, rfl⟩
  have same : ∀ b o, OwnE ρ id b o (.fam t (os.set j x')) ↔ OwnE ρ id b o (.fam t os) := fun b o => by simp [OwnE]
  have hown : ∀ b o, Own ρ (setN σ id (.fam t (os.set j x'))) b o ↔ Own ρ σ b o := by
    intro b o
    constructor
    · rintro ⟨i, f, hi, ho⟩
      rcases get_set hi with ⟨rfl, rfl⟩ | ⟨hne, hi⟩
      · exact ⟨i, _, hid, (same b o).1 ho⟩
      · exact ⟨i, f, hi, ho⟩
    · rintro ⟨i, f, hi, ho⟩
      by_cases hne : i = id
      · subst hne
        rw [hid] at hi; simp at hi; subst hi
        exact ⟨i, .fam t (os.set j x'), by rw [setN_eq]; simp [lt_of_get hid], (same b o).2 ho⟩
      · exact ⟨i, f, by rw [setN_eq, List.getElem?_set]; simp [Ne.symm hne, hi], ho⟩
  have hst : Stp ρ σ w ρ (setN σ id (.fam t (os.set j x'))) (w.setRow (ρ.g.f t j) vs'.toArray) := by
    refine ⟨rfl, rfl, rfl, by simp [World.setRow], fun b ob hob => ?_, fun b o _ ho => (hown b o).1 ho, by omega, fun _ _ => rfl, fun _ _ => .inl rfl, rfl, rfl, .set (fun _ _ h => by cases h; exact ⟨_, _, hid⟩)⟩
    by_cases hbb : b = ρ.g.f t j
    · subst hbb
      rw [hb] at hob; simp at hob; subst hob
      exact ⟨_, hheap, _, rfl, by simp [hl], fun o ho => absurd ⟨id, _, hid, mine o⟩ ho⟩
    · exact ⟨ob, by rw [heap_setRow_other hbb]; exact hob, okBlk.refl _ _⟩
  refine ⟨hst, fun i f hi => ?_, fun i k f g b o hi hk hf hg => ?_, fun b o ho => ?_, fun b o ho => h.xown b o ((hown b o).1 ho), hst.gok h⟩
  · rcases get_set hi with ⟨rfl, rfl⟩ | ⟨hne, hi⟩
    · obtain ⟨h0, h1, h2⟩ := h.ents i _ hid
      refine ⟨h0, by rw [List.length_set]; exact h1, fun m x hm => ?_⟩
      rw [List.getElem?_set] at hm
      split at hm
      · rename_i e'; subst e'
        simp only [Option.some.injEq] at hm; subst hm
        exact ⟨vs', e, hv.imp fun _ _ h => h.keep hst.keeps.zero, hheap⟩
      · rename_i hne
        obtain ⟨us, e', g1, g2⟩ := h2 m x hm
        refine ⟨us, e', g1.imp fun _ _ h => h.keep hst.keeps.zero, ?_⟩
        rw [heap_setRow_other fun e => hne (ρ.g.inj _ _ _ e).symm]; exact g2
    · refine (h.ents i f hi).keep hst.keeps (lt_of_get hi) rfl (fun hk => ?_) (fun hp hlt c e' f' hc => ?_) (fun t os he => ⟨rfl, fun j hj => by subst he; exact heap_setRow_other (fam_apart (o := 0) h hi hid hne (mine 0) j hj)⟩)
      · refine heap_setRow_other fun e => hne ?_
        refine h.disj i id f _ (ρ.g.f t j) 0 hi hid ?_ (mine 0)
        cases f <;> simp_all [Ent.blk, OwnE]
      · refine ⟨c, ?_, rfl, fun _ _ _ => rfl⟩
        rw [heap_setRow_other fun e => hne ?_]
        · exact hc
        · refine h.disj i id f _ (ρ.g.f t j) (ρ.t i).start hi hid ?_ (mine _)
          cases f <;> first | (simp [Ent.row] at hp; done) | exact ⟨e, Nat.le_refl _, hlt⟩
  · have back : ∀ i f, (setN σ id (.fam t (os.set j x')))[i]? = some f → OwnE ρ i b o f → ∃ f', σ[i]? = some f' ∧ OwnE ρ i b o f' := by
      intro i f hi ho
      rcases get_set hi with ⟨rfl, rfl⟩ | ⟨hne, hi⟩
      · exact ⟨_, hid, (same b o).1 ho⟩
      · exact ⟨f, hi, ho⟩
    obtain ⟨f', hi', hf'⟩ := back i f hi hf
    obtain ⟨g', hk', hg'⟩ := back k g hk hg
    exact h.disj i k f' g' b o hi' hk' hf' hg'
  · have := h.xlt b o ho; simpa [World.setRow] using this
def Fam.add (a : Fam) (t b : Nat) (hb : ∀ j, j < a.n t → a.f t j < b) : Fam where
  n u := if u = t then a.n t + 1 else a.n u
  f u j := if u = t then (if j < a.n t then a.f t j else b + (j - a.n t)) else a.f u j
  inj u i j h := by
    by_cases hu : u = t
    · subst hu
      simp only [if_true] at h
      split at h <;> split at h
      · exact a.inj _ _ _ h
      · rename_i h1 _; have := hb i h1; omega
      · rename_i _ h1; have := hb j h1; omega
      · omega
    · simp only [if_neg hu] at h; exact a.inj _ _ _ h
theorem Fam.add_le (a : Fam) (t b : Nat) (hb : ∀ j, j < a.n t → a.f t j < b) : FamLe a (a.add t b hb) := by
  refine ⟨fun u => ?_, fun u j hj => ?_⟩
  · simp only [Fam.add]; split
    · rename_i h; subst h; omega
    · exact Nat.le_refl _
  · simp only [Fam.add]; split
    · rename_i h; subst h; rw [if_pos hj]
    · rfl
theorem rel_fnew (h : Rel ρ σ w) {id t : Nat} {os : List AV} {x : AV} {vs : List Value} (e : TypeId) (hid : σ[id]? = some (.fam t os)) (hv : All2 (Val w (Stay ρ σ) ρ 0) x.cells vs) :
    ∃ g, g.n t = os.length + 1 ∧ g.f t os.length = w.heap.size ∧ Stp ρ σ w ⟨ρ.b, ρ.t, ρ.x, ρ.m, g⟩ (setN σ id (.fam t (os ++ [x]))) (w.alloc (.cells vs.toArray e)) ∧
      Rel ⟨ρ.b, ρ.t, ρ.x, ρ.m, g⟩ (setN σ id (.fam t (os ++ [x]))) (w.alloc (.cells vs.toArray e)) := by
  obtain ⟨h0, h1, h2⟩ := h.ents id _ hid
  have huq := fam_one h hid
  have hlt : ∀ j, j < ρ.g.n t → ρ.g.f t j < w.heap.size := fun j hj => by
    obtain ⟨us, e', h4⟩ := fam_cells h hid j (by omega); exact lt_of_heap h4
  have gn : ∀ u, (ρ.g.add t w.heap.size hlt).n u = if u = t then ρ.g.n t + 1 else ρ.g.n u := fun _ => rfl
  have gf : ∀ u j, (ρ.g.add t w.heap.size hlt).f u j = if u = t then (if j < ρ.g.n t then ρ.g.f t j else w.heap.size + (j - ρ.g.n t)) else ρ.g.f u j := fun _ _ => rfl
  have hle := Fam.add_le ρ.g t w.heap.size hlt
  generalize hg : ρ.g.add t w.heap.size hlt = g at gn gf hle
  have hlen : (setN σ id (.fam t (os ++ [x]))).length = σ.length := by rw [setN_eq]; simp
  have one : ∀ {i : Nat} {f : Ent}, σ[i]? = some f → i ≠ id → ∀ u os', f = .fam u os' → u ≠ t := by
    intro i f hi hne u os' he hu
    subst he hu
    exact hne (huq i os' hi)
  have other : ∀ {i b o : Nat} {f : Ent}, σ[i]? = some f → i ≠ id → (OwnE ⟨ρ.b, ρ.t, ρ.x, ρ.m, g⟩ i b o f ↔ OwnE ρ i b o f) := by
    intro i b o f hi hne
    cases f <;> try exact Iff.rfl
    rename_i u os'
    simp only [OwnE]
    constructor
    · rintro ⟨j, hj, h5⟩
      have hu := one hi hne u os' rfl
      rw [gf, if_neg hu] at h5
      exact ⟨j, hj, h5⟩
    · rintro ⟨j, hj, h5⟩
      have hu := one hi hne u os' rfl
      exact ⟨j, hj, by rw [gf, if_neg hu]; exact h5⟩
  have mine : ∀ {b o : Nat}, OwnE ⟨ρ.b, ρ.t, ρ.x, ρ.m, g⟩ id b o (.fam t (os ++ [x])) → OwnE ρ id b o (.fam t os) ∨ b = w.heap.size := by
    rintro b o ⟨j, hj, h5⟩
    change g.f t j = b at h5
    rw [gf, if_pos rfl] at h5
    split at h5
    · exact .inl ⟨j, by omega, h5⟩
    · simp at hj; right; omega
  have hown : ∀ b o, b < w.heap.size → Own ⟨ρ.b, ρ.t, ρ.x, ρ.m, g⟩ (setN σ id (.fam t (os ++ [x]))) b o → Own ρ σ b o := by
    rintro b o hb ⟨i, f, hi, ho⟩
    rcases get_set hi with ⟨rfl, rfl⟩ | ⟨hne, hi⟩
    · rcases mine ho with ho | ho
      · exact ⟨i, _, hid, ho⟩
      · omega
    · exact ⟨i, f, hi, (other hi hne).1 ho⟩
  have hst : Stp ρ σ w ⟨ρ.b, ρ.t, ρ.x, ρ.m, g⟩ (setN σ id (.fam t (os ++ [x]))) (w.alloc (.cells vs.toArray e)) := by
    refine ⟨rfl, rfl, rfl, by rw [World.size_alloc]; omega, fun b ob hb => ⟨ob, heap_alloc_old hb, okBlk.refl _ _⟩, hown, by omega, fun _ _ => rfl, fun _ _ => .inl rfl, rfl, rfl, ⟨hle, fun u hu => ⟨?_, fun ⟨i, os', hi⟩ => ?_⟩⟩⟩
    · show g.n u = _
      rw [gn, if_neg]
      intro e; subst e; exact hu ⟨_, _, hid⟩
    · rcases get_set hi with ⟨rfl, e⟩ | ⟨hne, hi⟩
      · cases e; exact hu ⟨_, _, hid⟩
      · exact hu ⟨_, _, hi⟩
  refine ⟨g, by rw [gn, if_pos rfl, h1], by rw [gf, if_pos rfl, if_neg (by omega), h1]; omega, hst, fun i f hi => ?_, fun i k f g' b o hi hk hf hg' => ?_, fun b o ho => ?_, fun b o ho hx => ?_, fun u j hj => ?_⟩
  rotate_right
  · obtain ⟨c, e', h8⟩ : ∃ c e', (w.alloc (.cells vs.toArray e)).heap[g.f u j]? = some (.cells c e' (0, 0)) := by
      replace hj : j < g.n u := hj
      rw [gn] at hj
      by_cases hu : u = t
      · subst hu
        rw [if_pos rfl] at hj
        rw [gf, if_pos rfl]
        split
        · rename_i hj2; obtain ⟨c, e', h9⟩ := h.gok u j hj2; exact ⟨c, e', heap_alloc_old h9⟩
        · rw [show j - ρ.g.n u = 0 by omega, Nat.add_zero]; exact ⟨_, _, heap_alloc_new⟩
      · rw [if_neg hu] at hj
        rw [gf, if_neg hu]
        obtain ⟨c, e', h9⟩ := h.gok u j hj; exact ⟨c, e', heap_alloc_old h9⟩
    exact ⟨c, e', h8⟩
  · rcases get_set hi with ⟨rfl, rfl⟩ | ⟨hne, hi⟩
    · refine ⟨h0, ?_, fun m y hm => ?_⟩
      · show _ = g.n t
        rw [gn, if_pos rfl, ← h1]; simp
      · show ∃ vs' e', _ ∧ (w.alloc (.cells vs.toArray e)).heap[g.f t m]? = _
        rcases Nat.lt_or_ge m os.length with hl | hl
        · rw [List.getElem?_append_left hl] at hm
          obtain ⟨us, e', g1, g2⟩ := h2 m y hm
          refine ⟨us, e', g1.imp fun _ _ h => h.keep hst.keeps.zero, ?_⟩
          rw [gf, if_pos rfl, if_pos (by omega)]
          exact heap_alloc_old g2
        · have hm' := lt_of_get hm
          simp at hm'
          have : m = os.length := by omega
          subst this
          simp at hm; subst hm
          refine ⟨vs, e, hv.imp fun _ _ h => h.keep hst.keeps.zero, ?_⟩
          rw [gf, if_pos rfl, if_neg (by omega), h1, Nat.sub_self, Nat.add_zero]
          exact heap_alloc_new
    · refine (h.ents i f hi).keep hst.keeps (lt_of_get hi) rfl (fun hn => ?_) (fun _ _ c e f hc => ⟨c, heap_alloc_old hc, rfl, fun _ _ _ => rfl⟩) (fun u os' he => ?_)
      · cases f with
        | var cs => obtain ⟨vs, e, _, h2⟩ := h.ents i _ hi; rw [heap_alloc_old h2, h2]
        | mp es => obtain ⟨ms, c, h1, _⟩ := h.ents i _ hi; rw [heap_alloc_old h1, h1]
        | lp ps asg body env k st pe => obtain ⟨r, h1, _⟩ := h.ents i _ hi; rw [heap_alloc_old h1, h1]
        | _ => simp [Ent.blk] at hn
      · subst he
        have hu := one hi hne u os' rfl
        refine ⟨by show g.n u = _; rw [gn, if_neg hu], fun j hj => ?_⟩
        obtain ⟨us, e', h4⟩ := fam_cells h hi j hj
        rw [heap_alloc_old h4, h4]
  · have hsz : ∀ {i : Nat} {f : Ent}, σ[i]? = some f → OwnE ρ i b o f → b < w.heap.size := fun hi hf => own_lt h hi hf
    rcases get_set hi with ⟨hi', e⟩ | ⟨hne, hi2⟩ <;> rcases get_set hk with ⟨hk', e'⟩ | ⟨hne', hk2⟩
    · exact hi'.trans hk'.symm
    · subst hi' e
      have h6 := (other hk2 hne').1 hg'
      rcases mine hf with h5 | h5
      · exact h.disj i k _ g' b o hid hk2 h5 h6
      · have := hsz hk2 h6; omega
    · subst hk' e'
      have h6 := (other hi2 hne).1 hf
      rcases mine hg' with h5 | h5
      · exact h.disj i k f _ b o hi2 hid h6 h5
      · have := hsz hi2 h6; omega
    · exact h.disj i k f g' b o hi2 hk2 ((other hi2 hne).1 hf) ((other hk2 hne').1 hg')
  · have := h.xlt b o ho; rw [World.size_alloc]; omega
  · exact h.xown b o (hown b o (h.xlt b o hx) ho) hx
theorem rel_kill (h : Rel ρ σ w) (id : Nat) : Stp ρ σ w ρ (setN σ id .dead) w ∧ Rel ρ (setN σ id .dead) w := by
  have hlen : (setN σ id .dead).length = σ.length := by rw [setN_eq]; simp
  have hown : ∀ b o, Own ρ (setN σ id .dead) b o → Own ρ σ b o := by
    rintro b o ⟨i, f, hi, ho⟩
    rcases get_set hi with ⟨rfl, rfl⟩ | ⟨hne, hi⟩
    · exact ho.elim
    · exact ⟨i, f, hi, ho⟩
  have hst : Stp ρ σ w ρ (setN σ id .dead) w := ⟨rfl, rfl, rfl, Nat.le_refl _, fun b ob hb => ⟨ob, hb, okBlk.refl _ _⟩, fun b o _ ho => hown b o ho, by omega, fun _ _ => rfl, fun _ _ => .inl rfl, rfl, rfl, .set (fun _ _ h => by cases h)⟩
  refine ⟨hst, fun i f hi => ?_, fun i j f g b o hi hj hf hg => ?_, h.xlt, fun b o ho => h.xown b o (hown b o ho), hst.gok h⟩
  · rcases get_set hi with ⟨rfl, rfl⟩ | ⟨hne, hi⟩
    · trivial
    · exact (h.ents i f hi).keep hst.keeps (lt_of_get hi) rfl (fun _ => rfl) (fun _ _ c e f hc => ⟨c, hc, rfl, fun _ _ _ => rfl⟩) (fun _ _ _ => ⟨rfl, fun _ _ => rfl⟩)
  · rcases get_set hi with ⟨rfl, rfl⟩ | ⟨hne, hi⟩
    · exact hf.elim
    · rcases get_set hj with ⟨rfl, rfl⟩ | ⟨hne', hj⟩
      · exact hg.elim
      · exact h.disj i j f g b o hi hj hf hg
theorem rel_mv (h : Rel ρ σ w) {id s : Nat} {xs : List AV} (hid : σ[id]? = some (.vec s xs)) :
    Stp ρ σ w (ρ.tipAt σ.length (ρ.t id)) (setN σ id .dead ++ [.vec s xs]) w ∧ Rel (ρ.tipAt σ.length (ρ.t id)) (setN σ id .dead ++ [.vec s xs]) w := by
  have hidl := lt_of_get hid
  have hlen : (setN σ id .dead).length = σ.length := by rw [setN_eq]; simp
  have tb : ∀ i, i < σ.length → (ρ.tipAt σ.length (ρ.t id)).t i = ρ.t i := fun i hi => by simp [Ro.tipAt]; omega
  have tn : (ρ.tipAt σ.length (ρ.t id)).t σ.length = ρ.t id := by simp [Ro.tipAt]
  have split : ∀ {i f}, (setN σ id .dead ++ [.vec s xs])[i]? = some f → (i = id ∧ f = .dead) ∨ (i ≠ id ∧ i < σ.length ∧ σ[i]? = some f) ∨ (i = σ.length ∧ f = .vec s xs) := by
    intro i f hi
    rcases get_push hi with ⟨hl, hi⟩ | ⟨hl, rfl⟩
    · rw [hlen] at hl
      rcases get_set hi with ⟨rfl, rfl⟩ | ⟨hne, hi⟩
      · exact .inl ⟨rfl, rfl⟩
      · exact .inr (.inl ⟨hne, hl, hi⟩)
    · rw [hlen] at hl; exact .inr (.inr ⟨hl, rfl⟩)
  have who : ∀ {i f b o}, (setN σ id .dead ++ [.vec s xs])[i]? = some f → OwnE (ρ.tipAt σ.length (ρ.t id)) i b o f → ∃ j g, σ[j]? = some g ∧ OwnE ρ j b o g ∧ ((i ≠ id ∧ i < σ.length ∧ j = i) ∨ (i = σ.length ∧ j = id)) := by
    intro i f b o hi ho
    rcases split hi with ⟨rfl, rfl⟩ | ⟨hne, hl, hi⟩ | ⟨rfl, rfl⟩
    · exact ho.elim
    · exact ⟨i, f, hi, (OwnE.congr (ρ' := ρ.tipAt σ.length (ρ.t id)) (by rfl) (tb i hl)).1 ho, .inl ⟨hne, hl, rfl⟩⟩
    · refine ⟨id, _, hid, ?_, .inr ⟨rfl, rfl⟩⟩
      simp only [OwnE, tn] at ho ⊢; exact ho
  have hown : ∀ b o, Own (ρ.tipAt σ.length (ρ.t id)) (setN σ id .dead ++ [.vec s xs]) b o → Own ρ σ b o := by
    rintro b o ⟨i, f, hi, ho⟩
    obtain ⟨j, g, h1, h2, _⟩ := who hi ho
    exact ⟨j, g, h1, h2⟩
  have hst : Stp ρ σ w (ρ.tipAt σ.length (ρ.t id)) (setN σ id .dead ++ [.vec s xs]) w :=
    ⟨rfl, rfl, rfl, Nat.le_refl _, fun b ob hb => ⟨ob, hb, okBlk.refl _ _⟩, fun b o _ ho => hown b o ho, by simp [hlen], fun _ _ => rfl, fun i hi => .inl (tb i hi), rfl, rfl, (FamStp.set (fun _ _ h => by cases h)).trans (FamStp.push (fun t os h => by cases h))⟩
  refine ⟨hst, fun i f hi => ?_, fun i j f g b o hi hj hf hg => ?_, h.xlt, fun b o ho => h.xown b o (hown b o ho), hst.gok h⟩
  · rcases split hi with ⟨rfl, rfl⟩ | ⟨hne, hl, hi⟩ | ⟨rfl, rfl⟩
    · trivial
    · exact (h.ents i f hi).keep hst.keeps hl (tb i hl) (fun _ => rfl) (fun _ _ c e f hc => ⟨c, hc, rfl, fun _ _ _ => rfl⟩) (fun _ _ _ => ⟨rfl, fun _ _ => rfl⟩)
    · have hk := (h.ents id _ hid).keep (w' := w) (e := .vec s xs) hst.keeps hidl (tb id hidl) (fun _ => rfl) (fun _ _ c e f hc => ⟨c, hc, rfl, fun _ _ _ => rfl⟩) (fun _ _ _ => ⟨rfl, fun _ _ => rfl⟩)
      simp only [EntOk, tn, tb id hidl] at hk ⊢
      exact hk
  · obtain ⟨i', f', h1, h2, h3⟩ := who hi hf
    obtain ⟨j', g', k1, k2, k3⟩ := who hj hg
    have := h.disj i' j' f' g' b o h1 k1 h2 k2
    subst this
    rcases h3 with ⟨a1, a2, a3⟩ | ⟨a1, a2⟩ <;> rcases k3 with ⟨b1, b2, b3⟩ | ⟨b1, b2⟩ <;> omega
theorem rel_new (h : Rel ρ σ w) {s : Nat} {xs : List AV} {l : Loc} {w' : World} (hpos : l.pos = 0) (hlen : l.start + xs.length * s ≤ l.stop)
    (hos : w'.os = w.os) (htape : w'.tape = w.tape) (hout : w'.output = w.output) (hh : ∀ (k : Nat) ob, w.heap[k]? = some ob → w'.heap[k]? = some ob) (hsz : w.heap.size ≤ w'.heap.size)
    (hb : l.start < l.stop → w.heap.size ≤ l.blk ∧ ∃ c e f, w'.heap[l.blk]? = some (.cells c e f) ∧ l.stop ≤ c.size ∧ ∀ o, l.start ≤ o → o < l.stop → w'.frozen? ⟨l.blk, o, none⟩ = false)
    (he : ∀ (k : Nat) x, xs[k]? = some x → ∃ vs, All2 (Val w (Stay ρ σ) ρ 0) x.cells vs ∧ vs.length = s ∧ ∀ (j : Nat) u, vs[j]? = some u → cellAt w' l.blk (l.start + k * s + j) = some u ∧ u.oneCell' = true) :
    Stp ρ σ w (ρ.tipAt σ.length l) (σ ++ [.vec s xs]) w' ∧ Rel (ρ.tipAt σ.length l) (σ ++ [.vec s xs]) w' := by
  have tn : (ρ.tipAt σ.length l).t σ.length = l := by simp [Ro.tipAt]
  refine h.push (fun _ _ => rfl) (fun i hi => by simp [Ro.tipAt]; omega) rfl rfl hos htape hout hh hsz (fun b o ho => ?_) (fun hst => ?_)
  · simp only [OwnE, tn] at ho
    obtain ⟨rfl, h1, h2⟩ := ho
    exact (hb (by omega)).1
  · simp only [EntOk, tn]
    refine ⟨hpos, hlen, fun hlt => (hb hlt).2, fun k x hx => ?_⟩
    obtain ⟨vs, g1, g2, g3⟩ := he k x hx
    exact ⟨vs, g1.imp fun _ _ h => h.keep hst.keeps.zero, g2, g3⟩
theorem free_val {S : Nat → Nat → Prop} {n : Nat} {x y : AV} {v : Value} (h : x.free = some y) (hv : Val w S ρ n x v) : Val w S ρ 0 y v ∧ y.one = true := by
  obtain ⟨d, hv⟩ := hv
  cases d with
  | zero => exact hv.elim
  | succ d =>
    cases x <;> simp only [AV.free, Option.some.injEq, reduceCtorEq] at h <;> subst h <;> first
      | exact ⟨⟨d + 1, hv⟩, rfl⟩
      | skip
    rename_i s xs t
    obtain ⟨ad, len, cap, e, h1, h2, h3, h4⟩ := hv
    refine ⟨⟨d + 1, ad, len, cap, e, h1, h2, ?_, h4⟩, rfl⟩
    cases t <;> first | trivial | exact h3
theorem freeL_val {S : Nat → Nat → Prop} {n : Nat} : ∀ {xs ys : List AV} {vs : List Value}, freeL xs = some ys → All2 (Val w S ρ n) xs vs → All2 (Val w S ρ 0) ys vs ∧ ∀ y ∈ ys, y.one = true
  | [], ys, [], h, _ => by simp [freeL] at h; subst h; exact ⟨trivial, by simp⟩
  | x :: xs, ys, v :: vs, h, hv => by
    simp only [freeL] at h
    split at h
    · simp at h
    · rename_i y hy
      split at h
      · simp at h
      · rename_i l hl
        simp only [Option.some.injEq] at h; subst h
        obtain ⟨h1, h2⟩ := free_val hy hv.1
        obtain ⟨h3, h4⟩ := freeL_val hl hv.2
        exact ⟨⟨h1, h3⟩, by simpa [h2] using h4⟩
  | [], _, _ :: _, _, h => h.elim
  | _ :: _, _, [], _, h => h.elim
theorem cells_one {x : AV} (h : x.one = true) : x.cells = [x] := by cases x <;> first | rfl | simp [AV.one] at h
theorem val_vs {S : Nat → Nat → Prop} {n id s : Nat} {lo k N : Int} {v : Value} (h : Val w S ρ n (.vs id s lo k N) v) :
    id < n ∧ ∃ (ad : Option Addr) (len cap : Nat), v = .slice ad len cap ∧ k = len ∧ len ≤ cap ∧ (0 < cap → ∃ b o, ad = some ⟨b, o, none⟩) ∧ ∃ l : Nat, lo = l ∧ N ≤ ((l + cap : Nat) : Int) ∧
        ((ρ.t id).pos = 0 → 0 < cap → ad = some ⟨(ρ.t id).blk, (ρ.t id).start + l * s, none⟩ ∧ (ρ.t id).start + (l + cap) * s ≤ (ρ.t id).stop) := by
  obtain ⟨d, h⟩ := h; cases d with
  | zero => exact h.elim
  | succ d => exact h
theorem val_vp {S : Nat → Nat → Prop} {n id s off : Nat} {i : Int} {v : Value} (h : Val w S ρ n (.vp id s i off) v) :
    id < n ∧ ∃ b o, v = .pointer (some ⟨b, o, none⟩) ∧ ((ρ.t id).pos = 0 → ∃ k : Nat, i = k ∧ b = (ρ.t id).blk ∧ o = (ρ.t id).start + k * s + off) := by
  obtain ⟨d, h⟩ := h; cases d with
  | zero => exact h.elim
  | succ d => exact h
theorem freeL_one : ∀ {xs ys : List AV}, freeL xs = some ys → allOne xs = true
  | [], _, _ => rfl
  | x :: xs, ys, h => by
    simp only [freeL] at h
    split at h
    · simp at h
    · rename_i y hy
      split at h
      · simp at h
      · rename_i l hl
        have hx : x.one = true := by cases x <;> first | rfl | simp [AV.free] at hy
        simp only [allOne, hx]
        exact freeL_one hl
theorem wkTL_vals {S : Nat → Nat → Prop} {n : Nat} {f : AV → AV → AV} (hf : ∀ (t a : AV) (v : Value), Val w S ρ n a v → Val w S ρ n (f t a) v) : ∀ (ts : List AV) {l : List AV} {vs : List Value}, All2 (Val w S ρ n) l vs → All2 (Val w S ρ n) (wkTL f ts l) vs
  | [], _, _, h => h
  | _ :: _, [], _, h => h
  | _ :: _, _ :: _, [], h => h.elim
  | t :: ts, _ :: _, _ :: _, h => ⟨hf t _ _ h.1, wkTL_vals hf ts h.2⟩
theorem wkTo_val {S : Nat → Nat → Prop} {n : Nat} : ∀ (d : Nat) (t : AV) {a : AV} {v : Value}, Val w S ρ n a v → Val w S ρ n (wkTo d t a) v
  | 0, _, _, _, h => h
  | d + 1, t, a, v, h => by
    unfold wkTo
    split
    · rename_i ts
      split
      · obtain ⟨vs, rfl, h2⟩ := val_agg h
        obtain ⟨d', hd⟩ := all2_depth (wkTL_vals (fun t a v h => wkTo_val d t h) ts h2)
        exact ⟨d' + 1, vs, rfl, hd⟩
      · exact h
    · split
      · have := val_nils h; subst this
        exact ⟨1, none, 0, 0, rfl, rfl, Nat.le_refl _, trivial, fun h => absurd rfl h⟩
      · obtain ⟨d', h⟩ := h
        cases d' with
        | zero => exact h.elim
        | succ d' =>
          obtain ⟨ad, len, cap, e, h1, h2, h3, h4⟩ := h
          exact ⟨d' + 1, ad, len, cap, e, h1, h2, trivial, h4⟩
      · exact h
    · split
      · rw [val_bl h]; exact ⟨1, rfl⟩
      · exact h
    · exact h
theorem wkTo_one : ∀ (d : Nat) (t : AV) {a : AV}, a.one = true → (wkTo d t a).one = true
  | 0, _, _, h => h
  | d + 1, t, a, h => by
    unfold wkTo
    split
    · split
      · simp [AV.one] at h
      · exact h
    · split <;> first | rfl | exact h
    · split <;> first | rfl | exact h
    · exact h
theorem wkTL_one {f : AV → AV → AV} (hf : ∀ (t a : AV), a.one = true → (f t a).one = true) : ∀ (ts : List AV) {l : List AV}, (∀ y ∈ l, y.one = true) → ∀ y ∈ wkTL f ts l, y.one = true
  | [], _, h => h
  | _ :: _, [], h => h
  | t :: ts, a :: l, h => by
    intro y hy
    simp only [wkTL, List.mem_cons] at hy
    rcases hy with rfl | hy
    · exact hf _ _ (h a (by simp))
    · exact wkTL_one hf ts (fun y hy => h y (by simp [hy])) y hy
theorem freeT_of {tm xs ys : List AV} (h : freeT tm xs = some ys) : ∃ zs, freeL xs = some zs ∧ ys = wkTL (wkTo 2) tm zs := by
  unfold freeT at h
  split at h
  · rename_i zs hz; exact ⟨zs, hz, by simpa using h.symm⟩
  · simp at h
theorem freeT_val {S : Nat → Nat → Prop} {n : Nat} {tm xs ys : List AV} {vs : List Value} (h : freeT tm xs = some ys) (hv : All2 (Val w S ρ n) xs vs) : All2 (Val w S ρ 0) ys vs ∧ ∀ y ∈ ys, y.one = true := by
  obtain ⟨zs, hz, rfl⟩ := freeT_of h
  obtain ⟨h1, h2⟩ := freeL_val hz hv
  exact ⟨wkTL_vals (fun t a v h => wkTo_val 2 t h) tm h1, wkTL_one (fun t a h => wkTo_one 2 t h) tm h2⟩
theorem freeT_one {tm xs ys : List AV} (h : freeT tm xs = some ys) : allOne xs = true := by
  obtain ⟨zs, hz, _⟩ := freeT_of h
  exact freeL_one hz
theorem uncT_cells {tm : List AV} {x : AV} {ys : List AV} (h : freeT tm x.cells = some ys) (h1 : ∀ y ∈ ys, y.one = true) : (unc x ys).cells = ys := by
  obtain ⟨zs, hz, rfl⟩ := freeT_of h
  by_cases hx : ∃ cs, x = .agg cs
  · obtain ⟨cs, rfl⟩ := hx; rfl
  · have e : x.cells = [x] := by cases x <;> first | rfl | exact absurd ⟨_, rfl⟩ hx
    have hl : ∃ y, wkTL (wkTo 2) tm zs = [y] := by
      rw [e] at hz
      simp only [freeL] at hz
      split at hz
      · simp at hz
      · rename_i y _; simp at hz; subst hz
        cases tm with
        | nil => exact ⟨_, rfl⟩
        | cons t ts => cases ts <;> exact ⟨_, rfl⟩
    obtain ⟨y, hy⟩ := hl
    rw [hy] at h1 ⊢
    have hy := cells_one (h1 y (by simp))
    cases x <;> first | exact hy | exact absurd ⟨_, rfl⟩ hx
theorem unc_cells {x : AV} {ys : List AV} (h : freeL x.cells = some ys) (h1 : ∀ y ∈ ys, y.one = true) : (unc x ys).cells = ys := by
  by_cases hx : ∃ cs, x = .agg cs
  · obtain ⟨cs, rfl⟩ := hx; rfl
  · have e : x.cells = [x] := by cases x <;> first | rfl | exact absurd ⟨_, rfl⟩ hx
    have hl : ∃ y, ys = [y] := by
      rw [e] at h
      simp only [freeL] at h
      split at h
      · simp at h
      · rename_i y _; simp at h; exact ⟨y, h.symm⟩
    obtain ⟨y, rfl⟩ := hl
    have hy := cells_one (h1 y (by simp))
    cases x <;> first | exact hy | exact absurd ⟨_, rfl⟩ hx
theorem unc_val {S : Nat → Nat → Prop} {n : Nat} {tm : List AV} {x : AV} {ys : List AV} {u : Value} (h : freeT tm x.cells = some ys) (hv : Val w S ρ n x u) : Val w S ρ 0 (unc x ys) u := by
  by_cases hx : ∃ cs, x = .agg cs
  · obtain ⟨cs, rfl⟩ := hx
    obtain ⟨vs, rfl, h2⟩ := val_agg hv
    obtain ⟨d, hd⟩ := all2_depth (freeT_val (vs := vs) h h2).1
    exact ⟨d + 1, vs, rfl, hd⟩
  · have e : x.cells = [x] := by cases x <;> first | rfl | exact absurd ⟨_, rfl⟩ hx
    rw [e] at h
    have h2 := (freeT_val (vs := [u]) h ⟨hv, trivial⟩).1
    match ys, h2 with
    | [y], h2 =>
      have : unc x [y] = y := by cases x <;> first | rfl | exact absurd ⟨_, rfl⟩ hx
      rw [this]; exact h2.1
theorem zeroV_val {S : Nat → Nat → Prop} {n : Nat} (ht : TabOk P tab) {t : TypeId} {z : AV} (h : (tab t).zeroV = some z) : ∃ i d v, TyOk P t (tab t) i d v ∧ Val w S ρ n z v ∧ allOne z.cells = true := by
  unfold Ty.zeroV at h
  split at h
  case h_2 => simp at h
  rename_i hok
  split at h
  case h_2 => simp at h
  rename_i hone
  obtain ⟨i, d, zv, hty⟩ := ht.ok hok
  refine ⟨i, d, zv, hty, ?_, ?_⟩
  case refine_2 =>
    split at h
    · simp only [Option.some.injEq] at h; subst h; exact hone
    · rename_i ha
      have h1 := hty.one ha
      have hl := hty.zsize
      rw [h1] at hl
      have hzl : (tab t).zero.length = 1 := by rw [hty.zeros]; simp [hl]
      rcases hz0 : (tab t).zero with _ | ⟨a, l⟩
      · rw [hz0] at hzl; simp at hzl
      · rw [hz0] at h hone hzl
        simp only [nth, Option.some.injEq] at h; subst h
        simp only [allOne] at hone
        split at hone
        · rename_i h1a
          rw [cells_one h1a]; simp [allOne, h1a]
        · simp at hone
  have hl := lits_val (w := w) (S := S) (ρ := ρ) (n := n) zv.cells.toList
  rw [← hty.zeros] at hl
  split at h
  · rename_i ha
    simp at h; subst h
    have : ∃ cs : Array Value, zv = .agg cs := by
      have := hty.zagg
      rw [ha] at this
      cases zv <;> simp [isAggV] at this
      exact ⟨_, rfl⟩
    obtain ⟨cs, rfl⟩ := this
    obtain ⟨d', hd⟩ := all2_depth hl
    exact ⟨d' + 1, cs.toList, by simp, hd⟩
  · rename_i ha
    have h1 := hty.one ha
    have h2 := hty.zsize
    rw [h1] at h2
    have hz := hty.zagg
    rw [ha] at hz
    have hc : ∃ u, zv.cells = #[u] := by
      rcases hcs : zv.cells with ⟨l⟩
      rw [hcs] at h2
      match l, h2 with
      | [], h2 => simp at h2
      | [u], _ => exact ⟨u, rfl⟩
      | _ :: _ :: _, h2 => simp at h2
    obtain ⟨u, hu⟩ := hc
    have hzu : zv = u := by
      cases zv <;> simp [isAggV] at hz <;> simp [Value.cells] at hu <;> exact hu
    rw [nth_eq] at h
    obtain ⟨v, g1, g2⟩ := hl.get h
    rw [hu] at g1
    simp at g1; subst g1
    rw [hzu]; exact g2
theorem allOne_iff : ∀ {l : List AV}, allOne l = true ↔ ∀ y ∈ l, y.one = true
  | [] => by simp [allOne]
  | x :: l => by
    simp only [allOne, List.mem_cons, forall_eq_or_imp]
    cases h : x.one with
    | true => simp [allOne_iff (l := l)]
    | false => simp
theorem wkTo_allOne (d : Nat) (t : AV) {a : AV} (h : allOne a.cells = true) : allOne (wkTo d t a).cells = true := by
  by_cases hx : ∃ cs, a = .agg cs
  · obtain ⟨cs, rfl⟩ := hx
    cases d with
    | zero => exact h
    | succ d =>
      cases t <;> first | exact h | skip
      exact allOne_iff.2 (wkTL_one (fun t a h => wkTo_one d t h) _ (allOne_iff.1 h))
  · have e : a.cells = [a] := by cases a <;> first | rfl | exact absurd ⟨_, rfl⟩ hx
    rw [e] at h
    have h1 := wkTo_one d t (allOne_iff.1 h a (by simp))
    rw [cells_one h1]
    exact allOne_iff.2 (by simpa using h1)
theorem zeroT_val {S : Nat → Nat → Prop} {n : Nat} (ht : TabOk P tab) {t : TypeId} {z : AV} (h : (tab t).zeroT = some z) : ∃ i d v, TyOk P t (tab t) i d v ∧ Val w S ρ n z v ∧ allOne z.cells = true := by
  unfold Ty.zeroT at h
  split at h
  · rename_i z0 hz0
    simp only [Option.some.injEq] at h; subst h
    obtain ⟨i, d, v, h1, h2, h3⟩ := zeroV_val (w := w) (S := S) (ρ := ρ) (n := n) ht hz0
    exact ⟨i, d, v, h1, wkTo_val 2 _ h2, wkTo_allOne 2 _ h3⟩
  · simp at h
theorem unc_upon {e : AV} {ys cs' : List AV} {off : Nat} (hup : upon e.cells off ys = some cs') (hy : ys ≠ []) (h1 : ∀ y ∈ ys, y.one = true) : (unc e cs').cells = cs' := by
  by_cases hx : ∃ cs, e = .agg cs
  · obtain ⟨cs, rfl⟩ := hx; rfl
  · have ec : e.cells = [e] := by cases e <;> first | rfl | exact absurd ⟨_, rfl⟩ hx
    rw [ec] at hup
    obtain ⟨h2, h3, h4⟩ := upon_eq _ _ _ hup
    have h3 := h3 hy
    have hl : 0 < ys.length := by cases ys <;> simp_all
    have : ys.length = 1 ∧ off = 0 := by simp at h3; omega
    obtain ⟨h5, rfl⟩ := this
    obtain ⟨y, rfl⟩ : ∃ y, ys = [y] := by
      match ys, h5 with
      | [y], _ => exact ⟨y, rfl⟩
    simp at h2; subst h2
    have hyo := cells_one (h1 y (by simp))
    cases e <;> first | exact hyo | exact absurd ⟨_, rfl⟩ hx
end
end Go.Pt
namespace Go.Pt
open Go
section
variable {P : Program} {n₀ : Nat} {tab : Nat → Ty} {w : World} {ρ : Ro} {s : St} {a : Act} {o : Oper} {K E : AV → List Ent → Prop} {next : Act → World → Prop} {Q : Exit → Act → World → Prop}
theorem wp_value {v : Value} {w' : World} (h : (execOp a.eval o).run P w = .ok (.value v) w') (hn : next (a.put o.dst v) w') : o.wp P a w next Q := by
  unfold Oper.wp; rw [h]; exact hn
theorem wp_skip' {w' : World} (h : (execOp a.eval o).run P w = .ok .skip w') (hn : next (a.put o.dst undef) w') : o.wp P a w next Q := by
  unfold Oper.wp; rw [h]; exact hn
theorem Goes.here (hg : Goes ρ s a w o.dst K next) (hs : RelS ρ s a w) {v : AV} {u : Value} (hk : K v s.hp) (hv : Val w (Stay ρ s.hp) ρ s.hp.length v u) : next (a.put o.dst u) w :=
  hg.go v u ρ s.hp w hk hv (Stp.refl _ _ _) hs.rel
theorem sound_move {x : Operand} (ho : o.op = .move x ∨ o.op = .assign x) (hs : RelS ρ s a w) (h : K (s.ev x) s.hp) (hg : Goes ρ s a w o.dst K next) : o.wp P a w next Q :=
  wp_value (v := a.eval x) (w' := w) (by rcases ho with ho | ho <;> simp [execOp, ho]) (hg.here hs h (ev_val hs x))
theorem sound_load (ht : TabOk P tab) {t : TypeId} {x : Operand} (ho : o.op = .load t x) (hs : RelS ρ s a w) (h : aop (std P n₀) tab (.load t x) s K E) (hg : Goes ρ s a w o.dst K next) : o.wp P a w next Q := by
  have hx := ev_val hs x
  simp only [aop] at h
  have fin : ∀ {b o' off : Nat} {vs : List Value} {cs : List AV} {av : AV} {n : Nat}, n ≤ s.hp.length → a.eval x = .pointer (some ⟨b, o' + off, none⟩) → (∀ (j : Nat) u, vs[j]? = some u → cellAt w b (o' + j) = some u) →
      All2 (Val w (Stay ρ s.hp) ρ n) cs vs → rd (tab t) cs off = some av → K av s.hp → o.wp P a w next Q := by
    intro b o' off vs cs av n hn he hm hc hr hk
    have hok : (tab t).ok = true := by unfold rd at hr; split at hr <;> simp_all
    obtain ⟨i, d, z, hty⟩ := ht.ok hok
    obtain ⟨u, h1, h2⟩ := run_loadVar_at (P := P) hty hm hc hr
    refine wp_value (v := u) (w' := w) ?_ (hg.here hs hk (h2.keep ⟨fun _ _ _ a b => ⟨a, b⟩, hn, fun _ _ => rfl, fun _ _ => .inl rfl, .refl _⟩))
    simp [execOp, ho, Instr.loadAt, Instr.sureAddr, he, h1]
  split at h
  · rename_i id off e
    rw [e] at hx
    obtain ⟨hlt, hv⟩ := val_ptr hx
    rw [nth_eq] at h
    split at h
    · rename_i cs hcs
      split at h
      · rename_i av hr
        obtain ⟨vs, ty, h1, h2⟩ := hs.rel.ents id _ hcs
        refine fin (o' := 0) (Nat.le_refl _) (by simpa using hv) (fun j u hu => ?_) h1 hr h
        rw [Nat.zero_add, cellAt_cells h2]; simpa using hu
      · exact h.elim
    · exact h.elim
  · rename_i cs off e
    rw [e] at hx
    obtain ⟨b, o', vs, hv, h1, h2⟩ := val_cptr hx
    split at h
    · rename_i av hr
      exact fin (Nat.zero_le _) hv (fun j u hu => (h2 j u hu).2.1) h1 hr h
    · exact h.elim
  · rename_i id z i off e
    rw [e] at hx
    obtain ⟨hlt, b, o', hv, hloc⟩ := val_vp hx
    rw [nth_eq] at h
    split at h
    case h_2 => exact h.elim
    rename_i z' xs hcs
    split at h
    case h_2 => exact h.elim
    rename_i hz
    have hz' := beN_t hz
    subst hz'
    obtain ⟨hp, _, _, hel⟩ := hs.rel.ents id _ hcs
    obtain ⟨k, rfl, rfl, rfl⟩ := hloc hp
    obtain ⟨⟨h0, h1⟩, hk⟩ := h
    replace h1 : (k : Int) < xs.length := h1
    replace hk : ∀ e, xs[(k : Int).toNat]? = some e → _ := hk
    have hkl : k < xs.length := by omega
    have hx' : xs[k]? = some xs[k] := by simp [hkl]
    have h := hk xs[k] hx'
    obtain ⟨vs, g1, g2, g3⟩ := hel k _ hx'
    split at h
    · rename_i av hr
      exact fin (o' := (ρ.t id).start + k * z) (Nat.zero_le _) hv (fun j u hu => (g3 j u hu).1) g1 hr h
    · exact h.elim
  · rename_i f k off e
    rw [e] at hx
    obtain ⟨j, rfl, hj, hv⟩ := val_fp hx
    split at h
    case h_2 => exact h.elim
    rename_i i os hfo
    obtain ⟨_, h1, h2⟩ := hs.rel.ents i _ (famOf_get hfo)
    replace h : ∀ e, os[(j : Int).toNat]? = some e → _ := h.2
    have hx' : os[j]? = some os[j] := by simp
    have h := h os[j] hx'
    obtain ⟨vs, ty, g1, g2⟩ := h2 j _ hx'
    split at h
    · rename_i av hr
      refine fin (o' := 0) (Nat.zero_le _) (by simpa using hv) (fun j u hu => ?_) g1 hr h
      rw [Nat.zero_add, cellAt_cells g2]; simpa using hu
    · exact h.elim
  · exact h.elim
theorem sound_store (ht : TabOk P tab) {t : TypeId} {x y : Operand} (ho : o.op = .store t x y) (hs : RelS ρ s a w) (h : aop (std P n₀) tab (.store t x y) s K E) (hg : Goes ρ s a w o.dst K next) : o.wp P a w next Q := by
  have hx := ev_val hs x
  have hy := ev_val hs y
  simp only [aop] at h
  split at h
  case h_4 => exact h.elim
  case h_3 =>
    rename_i f k off e
    rw [e] at hx
    obtain ⟨j, rfl, hj, hv⟩ := val_fp hx
    split at h
    case h_2 => exact h.elim
    rename_i id os hfo
    split at h
    case h_2 => exact h.elim
    rename_i hpos
    split at h
    case h_2 => exact h.elim
    rename_i hsz
    split at h
    case h_2 => exact h.elim
    rename_i ys hfr
    have hid := famOf_get hfo
    obtain ⟨_, h1, h2⟩ := hs.rel.ents id _ hid
    replace h : ∀ e, os[(j : Int).toNat]? = some e → _ := h.2
    have hjl : j < os.length := by omega
    have hx' : os[j]? = some os[j] := by simp [hjl]
    have h := h os[j] hx'
    obtain ⟨vs, ty, g1, g2⟩ := h2 j _ hx'
    split at h
    case h_2 => exact h.elim
    rename_i cs' hup
    replace h : K .junk (setN s.hp id (.fam f (os.set (j : Int).toNat (unc os[j] cs')))) := h
    rw [Int.toNat_natCast] at h
    obtain ⟨ti, td, tz, hty⟩ := ht.pos hpos
    have hpos' : 0 < (tab t).size := by simpa [ltN_eq] using hpos
    have hsz' : (s.ev y).cells.length = (tab t).size := by
      have := beN_t hsz; rwa [lenN_eq] at this
    obtain ⟨hc, h1c⟩ := hy.cells (freeT_one hfr)
    have hcl := hc.length
    obtain ⟨hf1, hf2⟩ := freeT_val hfr hc
    have hfl := hf1.length
    have hgl := g1.length
    have hsize : (a.eval y).cells.size = (tab t).size := by rw [← hsz', hcl]; simp
    have hne : ys ≠ [] := by intro e; subst e; simp [hsize] at hfl; omega
    obtain ⟨hcs', hle, hlen'⟩ := upon_eq _ _ _ hup
    have hle' := hle hne
    have hnl : (a.eval y).cells.toList.length = (tab t).size := by simp [hsize]
    have hrun := run_storeCells_at (P := P) (ρ.g.f f j) off ty (a.eval y).cells.toList 0 vs.toArray w g2 (by simp; omega) h1c
    have hst := rel_fset hs.rel (x' := unc os[j] cs') (vs' := vs.take off ++ (a.eval y).cells.toList ++ vs.drop (off + (a.eval y).cells.toList.length)) hid hjl g2 (by simp; omega) (by
      rw [unc_upon hup hne hf2, hcs']
      exact ((g1.take off).append hf1).append (by rw [hfl]; exact g1.drop _))
    refine wp_skip' (w' := w.setRow (ρ.g.f f j) (vs.take off ++ (a.eval y).cells.toList ++ vs.drop (off + (a.eval y).cells.toList.length)).toArray) ?_ (hg.go _ _ _ _ _ h Val.junk hst.1 hst.2)
    simp only [Nat.add_zero] at hrun
    simp [execOp, ho, Instr.storeAt, Instr.sureAddr, hv, storeVar, run_size hty, hsize, hrun]
  case h_2 =>
    rename_i id z i off e
    rw [e] at hx
    obtain ⟨hlt, b, o', hv, hloc⟩ := val_vp hx
    rw [nth_eq] at h
    split at h
    case h_2 => exact h.elim
    rename_i z' xs hcs
    split at h
    case h_2 => exact h.elim
    rename_i hz
    have hz' := beN_t hz
    subst hz'
    split at h
    case h_2 => exact h.elim
    rename_i hpos
    split at h
    case h_2 => exact h.elim
    rename_i hsz
    split at h
    case h_2 => exact h.elim
    rename_i ys hfr
    have hent := hs.rel.ents id _ hcs
    have hent' := hent
    obtain ⟨hp, hlen, hblk, hel⟩ := hent'
    obtain ⟨k, rfl, rfl, rfl⟩ := hloc hp
    obtain ⟨ti, td, tz, hty⟩ := ht.pos hpos
    have hpos' : 0 < (tab t).size := by simpa [ltN_eq] using hpos
    have hsz' : (s.ev y).cells.length = (tab t).size := by
      have := beN_t hsz; rwa [lenN_eq] at this
    have hcells : allOne (s.ev y).cells = true := freeT_one hfr
    obtain ⟨hc, h1c⟩ := hy.cells hcells
    have hcl := hc.length
    obtain ⟨hf1, hf2⟩ := freeT_val hfr hc
    have hfl := hf1.length
    have hsize : (a.eval y).cells.size = (tab t).size := by rw [← hsz', hcl]; simp
    have run : ∀ {q : Nat}, a.eval x = .pointer (some ⟨(ρ.t id).blk, q, none⟩) → (ρ.t id).start ≤ q → q + (tab t).size ≤ (ρ.t id).stop → (execOp a.eval o).run P w = .ok .skip (w.setCells (ρ.t id).blk q (a.eval y).cells.toList) := by
      intro q hq h1 h2
      have hcc := vec_cells hent h1 h2
      have := run_storeCells_cells (P := P) (ρ.t id).blk q (a.eval y).cells.toList 0 w (fun j hj => by rw [Nat.add_zero]; exact (hcc j (by simp [hsize] at hj; exact hj)).1) (fun j hj => by rw [Nat.add_zero]; exact (hcc j (by simp [hsize] at hj; exact hj)).2) h1c
      rw [Nat.add_zero] at this
      simp [execOp, ho, Instr.storeAt, Instr.sureAddr, hq, storeVar, run_size hty, hsize, this]
    split at h
    · rename_i hzz
      have hzz' := beN_t hzz
      split at h
      case h_2 => exact h.elim
      obtain ⟨⟨h0, h1⟩, h⟩ := h
      replace h1 : (k : Int) < xs.length := h1
      replace h : K .junk (setN s.hp id (.vec z (xs.set (k : Int).toNat (unc (s.ev y) ys)))) := h
      have hkl : k < xs.length := by omega
      have hb : (ρ.t id).start + (k + [unc (s.ev y) ys].length) * z ≤ (ρ.t id).stop := by
        have := Nat.mul_le_mul_right z (show k + 1 ≤ xs.length by omega)
        simp only [List.length_singleton]; omega
      have hst := rel_lay hs.rel (ys := [unc (s.ev y) ys]) (p := k) (news := (a.eval y).cells.toList) hcs (by omega) hb (by simp [hsize, hzz']) h1c (fun j v hv => by
        cases j with
        | succ j => simp at hv
        | zero =>
          simp at hv; subst hv
          exact ⟨_, by rw [uncT_cells hfr hf2]; exact hf1, by simp [hsize, hzz'], fun j u hu => by simpa using hu⟩)
      have e' : xs.take k ++ [unc (s.ev y) ys] ++ xs.drop (k + [unc (s.ev y) ys].length) = xs.set (k : Int).toNat (unc (s.ev y) ys) := by
        rw [Int.toNat_natCast, List.set_eq_take_append_cons_drop, if_pos hkl]; simp
      rw [e'] at hst
      have hbz : (ρ.t id).start + k * z + (tab t).size ≤ (ρ.t id).stop := by
        simp only [List.length_singleton, Nat.add_mul, Nat.one_mul] at hb; omega
      exact wp_skip' (run (by rw [hv]; simp) (by omega) hbz) (hg.go _ _ _ _ _ h Val.junk hst.1 hst.2)
    · obtain ⟨⟨h0, h1⟩, hk⟩ := h
      replace h1 : (k : Int) < xs.length := h1
      replace hk : ∀ e, xs[(k : Int).toNat]? = some e → _ := hk
      have hkl : k < xs.length := by omega
      have hx' : xs[k]? = some xs[k] := by simp [hkl]
      have h := hk xs[k] hx'
      split at h
      case h_2 => exact h.elim
      rename_i cs hcse
      split at h
      case h_2 => exact h.elim
      rename_i cs' hup
      obtain ⟨vs, g1, g2, g3⟩ := hel k _ hx'
      rw [hcse] at g1
      replace g1 : All2 (Val w (Stay ρ s.hp) ρ 0) cs vs := g1
      obtain ⟨hcs', hle, hlen'⟩ := upon_eq _ _ _ hup
      have hyl : ys.length = (tab t).size := by rw [hfl]; simp [hsize]
      have hle' := hle (by intro e; simp [e] at hyl; omega)
      have hgl := g1.length
      have hbz := el_lt (n := xs.length) (s := z) (j := z - 1) hkl (by omega)
      have hq : (ρ.t id).start + k * z + off + (tab t).size ≤ (ρ.t id).stop := by omega
      replace h : K .junk (setN s.hp id (.vec z (xs.set (k : Int).toNat (.agg cs')))) := h
      rw [Int.toNat_natCast] at h
      have hnl : (a.eval y).cells.toList.length = (tab t).size := by simp [hsize]
      have hst := rel_row hs.rel (xs' := xs.set k (.agg cs')) (q := (ρ.t id).start + k * z + off) (news := (a.eval y).cells.toList) hcs (by omega) (by rw [hnl]; exact hq) (by simpa using hlen) (fun m e hm => by
        obtain ⟨c, e', f, q1, q2, q3⟩ := hblk (by omega)
        obtain ⟨c', k1, k2, k3, k4⟩ := setCells_heap (ρ.t id).blk (a.eval y).cells.toList ((ρ.t id).start + k * z + off) w q1
        rw [List.getElem?_set] at hm
        split at hm
        · rename_i hmk
          subst hmk
          simp at hm; subst hm
          refine ⟨vs.take off ++ (a.eval y).cells.toList ++ vs.drop (off + (a.eval y).cells.toList.length), ?_, ?_, fun j u hu => ?_⟩
          · rw [show (AV.agg cs').cells = cs' from rfl, hcs']
            exact ((g1.take off).append hf1).append (by rw [hfl]; exact g1.drop _)
          · simp; omega
          · rw [cellAt_cells k1]
            rw [List.append_assoc, List.getElem?_append] at hu
            have hto : (vs.take off).length = off := by simp; omega
            rw [hto] at hu
            split at hu
            · rename_i hjo
              rw [List.getElem?_take, if_pos hjo] at hu
              obtain ⟨g4, g5⟩ := g3 j u hu
              rw [cellAt_cells q1] at g4
              exact ⟨by rw [k3 _ (by left; omega)]; exact g4, g5⟩
            · rename_i hjo
              rw [List.getElem?_append] at hu
              split at hu
              · rename_i hj2
                have := k4 (by rw [hnl]; omega) _ u hu
                exact ⟨by rw [← this]; congr 1; omega, h1c u (List.mem_of_getElem? hu)⟩
              · rename_i hj2
                rw [List.getElem?_drop] at hu
                have hjj : off + (a.eval y).cells.toList.length + (j - off - (a.eval y).cells.toList.length) = j := by omega
                rw [hjj] at hu
                obtain ⟨g4, g5⟩ := g3 j u hu
                rw [cellAt_cells q1] at g4
                exact ⟨by rw [k3 _ (by right; omega)]; exact g4, g5⟩
        · rename_i hmk
          obtain ⟨us, p1, p2, p3⟩ := hel m e hm
          refine ⟨us, p1, p2, fun j u hu => ?_⟩
          obtain ⟨p4, p5⟩ := p3 j u hu
          rw [cellAt_cells q1] at p4
          rw [cellAt_cells k1]
          have hju := lt_of_get hu
          have hml := lt_of_get hm
          refine ⟨?_, p5⟩
          rw [k3 _ ?_]
          · exact p4
          · rcases Nat.lt_or_ge m k with hmk' | hmk'
            · left
              have := el_lt (n := k) (s := z) (j := j) hmk' (by omega); omega
            · right
              have := el_lt (n := m) (s := z) (j := z - 1) (show k < m by omega) (by omega)
              rw [hnl]; omega)
      exact wp_skip' (run hv (by omega) hq) (hg.go _ _ _ _ _ h Val.junk hst.1 hst.2)
  rename_i id off e
  rw [e] at hx
  obtain ⟨hlt, hv⟩ := val_ptr hx
  rw [nth_eq] at h
  split at h
  case h_2 => exact h.elim
  rename_i cs hcs
  split at h
  case h_2 => exact h.elim
  rename_i hpos
  split at h
  case h_2 => exact h.elim
  rename_i hsz
  split at h
  case h_2 => exact h.elim
  rename_i hone
  split at h
  case h_2 => exact h.elim
  rename_i cs' hup
  obtain ⟨vs, ty, h1, h2⟩ := hs.rel.ents id _ hcs
  obtain ⟨hc, h1c⟩ := hy.cells hone
  obtain ⟨rfl, hle, hlen⟩ := upon_eq _ _ _ hup
  have hcl := hc.length
  have hvl := h1.length
  have hsz' : (s.ev y).cells.length = (tab t).size := by
    have := beN_t hsz; rwa [lenN_eq] at this
  obtain ⟨i, d, z, hty⟩ := ht.pos hpos
  have hpos' : 0 < (tab t).size := by simpa [ltN_eq] using hpos
  have hle' : off + (s.ev y).cells.length ≤ cs.length := hle (by intro e; simp [e] at hsz'; omega)
  have hsize : (a.eval y).cells.size = (tab t).size := by rw [← hsz', hcl]; simp
  have hrun := run_storeCells_at (P := P) (ρ.b id) off ty (a.eval y).cells.toList 0 vs.toArray w h2 (by simp; omega) h1c
  have hst := rel_store hs.rel (cs' := cs.take off ++ (s.ev y).cells ++ cs.drop (off + (s.ev y).cells.length)) (vs' := vs.take off ++ (a.eval y).cells.toList ++ vs.drop (off + (a.eval y).cells.toList.length)) hcs h2
    (by simp; omega) (((h1.take off).append hc).append (by rw [hcl]; exact h1.drop _))
  refine wp_skip' (w' := w.setRow (ρ.b id) (vs.take off ++ (a.eval y).cells.toList ++ vs.drop (off + (a.eval y).cells.toList.length)).toArray) ?_ (hg.go _ _ _ _ _ h Val.junk hst.1 hst.2)
  simp only [Nat.add_zero] at hrun
  simp [execOp, ho, Instr.storeAt, Instr.sureAddr, hv, storeVar, run_size hty, hsize, hrun]
theorem sound_pick {c x y : Operand} (ho : o.op = .pick c x y) (hs : RelS ρ s a w) (h : aop (std P n₀) tab (.pick c x y) s K E) (hg : Goes ρ s a w o.dst K next) : o.wp P a w next Q := by
  have hc := ev_val hs c
  have hx := ev_val hs x
  have hy := ev_val hs y
  have run : ∀ {b : Bool}, a.eval c = .bool b → (execOp a.eval o).run P w = .ok (.value (if b then a.eval x else a.eval y)) w := by
    intro b e
    simp only [execOp, ho, e, asBool]
    cases b <;> rfl
  have und : ∀ {g : Bool} {v : AV} {u : Value} {R : AV → Prop}, under g v R → Val w (Stay ρ s.hp) ρ s.hp.length v u → ∃ v', R v' ∧ (g = true → Val w (Stay ρ s.hp) ρ s.hp.length v' u) := by
    intro g v u R h hv
    unfold under at h
    split at h
    · exact ⟨_, h.2, fun e => (val_cond hv).1 (h.1 e)⟩
    · exact ⟨_, h, fun _ => hv⟩
  simp only [aop] at h
  split at h
  · rename_i e; rw [e] at hc
    obtain ⟨v, hk, hv⟩ := und h hx
    exact wp_value (run (val_bl hc)) (hg.here hs hk (by simpa using hv rfl))
  · rename_i e; rw [e] at hc
    obtain ⟨v, hk, hv⟩ := und h hy
    exact wp_value (run (val_bl hc)) (hg.here hs hk (by simpa using hv rfl))
  · rename_i b e; rw [e] at hc
    obtain ⟨v, h, hv⟩ := und h hx
    obtain ⟨u, h, hu⟩ := und h hy
    have tel : ∀ {v : AV} {t : Bool} {u : Value}, v.tell = some t → Val w (Stay ρ s.hp) ρ s.hp.length v u → u = .bool t := by
      intro v t u e h
      unfold AV.tell at e
      split at e <;> simp at e <;> subst e
      · exact val_bool h
      · exact val_bl h
    split at h
    case h_2 => exact h.elim
    rename_i p hp
    split at h
    case h_2 => exact h.elim
    rename_i q hq
    refine wp_value (run (val_bool hc)) (hg.here hs h ⟨1, ?_⟩)
    simp only [Cz, std, stdOps]
    cases b
    · simpa using tel hq (hu rfl)
    · simpa using tel hp (hv rfl)
  · exact h.elim
theorem sound_alloc (ht : TabOk P tab) {t : TypeId} (ho : o.op = .alloc t) (hs : RelS ρ s a w) (h : aop (std P n₀) tab (.alloc t) s K E) (hg : Goes ρ s a w o.dst K next) : o.wp P a w next Q := by
  simp only [aop] at h
  split at h
  case h_2 => exact h.elim
  rename_i hok
  split at h
  · rename_i p hp
    split at h
    case h_2 => exact h.elim
    rename_i z hz
    split at h
    case h_2 => exact h.elim
    rename_i id os hfo
    obtain ⟨i, d, zv, hty, hzv, hone⟩ := zeroT_val (w := w) (S := Stay ρ s.hp) (ρ := ρ) (n := 0) ht hz
    obtain ⟨hc, _⟩ := hzv.cells hone
    obtain ⟨g, g1, g2, hst⟩ := rel_fnew hs.rel t (famOf_get hfo) hc
    refine wp_value (v := .pointer (some ⟨w.heap.size, 0, none⟩)) (w' := w.alloc (.cells zv.cells.toList.toArray t)) ?_ (hg.go _ _ _ _ _ h ⟨1, os.length, rfl, ?_, ?_⟩ hst.1 hst.2)
    · simp [execOp, ho, Instr.alloc, run_zero hty, newVar, newRow]
    · show os.length < g.n p
      omega
    · show _ = Value.pointer (some ⟨g.f p os.length, 0, none⟩)
      rw [g2]
  obtain ⟨i, d, z, hty⟩ := ht.ok hok
  rw [lenN_eq, snoc_eq, hty.zeros] at h
  have hst := rel_var hs.rel t (lits_val (w := w) (S := Stay ρ s.hp) (ρ := ρ) (n := s.hp.length) z.cells.toList)
  refine wp_value (v := .pointer (some ⟨w.heap.size, 0, none⟩)) (w' := w.alloc (.cells z.cells.toList.toArray t)) ?_ (hg.go _ _ _ _ _ h ⟨1, ?_⟩ hst.1 hst.2)
  · simp [execOp, ho, Instr.alloc, run_zero hty, newVar, newRow]
  · simp [Cz, Ro.add]
theorem sound_box {t : TypeId} {x : Operand} (ho : o.op = .box t x) (hs : RelS ρ s a w) (h : aop (std P n₀) tab (.box t x) s K E) (hg : Goes ρ s a w o.dst K next) : o.wp P a w next Q := by
  simp only [aop] at h
  split at h
  case h_2 => exact h.elim
  rename_i hone
  obtain ⟨hc, _⟩ := (ev_val hs x).cells hone
  split at h
  · rename_i p hp
    split at h
    case h_2 => exact h.elim
    rename_i ys hfr
    split at h
    case h_2 => exact h.elim
    rename_i id os hfo
    obtain ⟨hf1, hf2⟩ := freeT_val hfr hc
    obtain ⟨g, g1, g2, hst⟩ := rel_fnew (x := unc (s.ev x) ys) hs.rel t (famOf_get hfo) (by rw [uncT_cells hfr hf2]; exact hf1)
    refine wp_value (v := .pointer (some ⟨w.heap.size, 0, none⟩)) (w' := w.alloc (.cells (a.eval x).cells.toList.toArray t)) ?_ (hg.go _ _ _ _ _ h ⟨1, os.length, rfl, ?_, ?_⟩ hst.1 hst.2)
    · simp [execOp, ho, Instr.box, newVar, newRow]
    · show os.length < g.n p
      omega
    · show _ = Value.pointer (some ⟨g.f p os.length, 0, none⟩)
      rw [g2]
  rw [lenN_eq, snoc_eq] at h
  have hst := rel_var hs.rel t hc
  refine wp_value (v := .pointer (some ⟨w.heap.size, 0, none⟩)) (w' := w.alloc (.cells (a.eval x).cells.toList.toArray t)) ?_ (hg.go _ _ _ _ _ h ⟨1, ?_⟩ hst.1 hst.2)
  · simp [execOp, ho, Instr.box, newVar, newRow]
  · simp [Cz, Ro.add]
theorem sound_nilCheck {x : Operand} (ho : o.op = .nilCheck x) (hs : RelS ρ s a w) (h : aop (std P n₀) tab (.nilCheck x) s K E) (hg : Goes ρ s a w o.dst K next) : o.wp P a w next Q := by
  have hx := ev_val hs x
  simp only [aop] at h
  split at h
  · rename_i e; rw [e] at hx
    refine wp_value (v := a.eval x) (w' := w) ?_ (hg.here hs h hx)
    simp [execOp, ho, (val_ptr hx).2]
  · rename_i e; rw [e] at hx
    obtain ⟨b, o', vs, hv, _⟩ := val_cptr hx
    refine wp_value (v := a.eval x) (w' := w) ?_ (hg.here hs h hx)
    simp [execOp, ho, hv]
  · rename_i e; rw [e] at hx
    obtain ⟨_, b, o', hv, _⟩ := val_vp hx
    refine wp_value (v := a.eval x) (w' := w) ?_ (hg.here hs h hx)
    simp [execOp, ho, hv]
  · rename_i e; rw [e] at hx
    obtain ⟨j, _, _, hv⟩ := val_fp hx
    refine wp_value (v := a.eval x) (w' := w) ?_ (hg.here hs h hx)
    simp [execOp, ho, hv]
  · rename_i e; rw [e] at hx
    obtain ⟨vs, hv, _⟩ := val_func hx
    refine wp_value (v := a.eval x) (w' := w) ?_ (hg.here hs h hx)
    simp [execOp, ho, hv]
  · exact h.elim
theorem sound_extract {x : Operand} {i : Nat} (ho : o.op = .extract x i) (hs : RelS ρ s a w) (h : aop (std P n₀) tab (.extract x i) s K E) (hg : Goes ρ s a w o.dst K next) : o.wp P a w next Q := by
  have hx := ev_val hs x
  simp only [aop] at h
  split at h
  case h_2 => exact h.elim
  rename_i vs e; rw [e] at hx
  obtain ⟨us, hv, hc⟩ := val_tup hx
  rw [nth_eq] at h
  split at h
  case h_2 => exact h.elim
  rename_i v hi
  obtain ⟨u, hu, hvu⟩ := hc.get hi
  refine wp_value (v := u) (w' := w) ?_ (hg.here hs h hvu)
  simp [execOp, ho, hv, Instr.extract, hu]
theorem sound_unOp {u : UnOp} {t : TypeId} {x : Operand} (ho : o.op = .unOp u t x) (hs : RelS ρ s a w) (h : aop (std P n₀) tab (.unOp u t x) s K E) (hg : Goes ρ s a w o.dst K next) : o.wp P a w next Q := by
  have hx := ev_val hs x
  simp only [aop] at h
  split at h
  · split at h
    · rename_i b e; rw [e] at hx
      refine wp_value (v := .bool (!b)) (w' := w) ?_ (hg.here hs h ⟨1, rfl⟩)
      simp [execOp, ho, val_bool hx, Op.unary]
    · rename_i b e; rw [e] at hx
      refine wp_value (v := .bool (!b)) (w' := w) ?_ (hg.here hs h ⟨1, rfl⟩)
      simp [execOp, ho, val_bl hx, Op.unary]
    · exact h.elim
  · split at h
    · rename_i k n e; rw [e] at hx
      refine wp_value (v := .int k (k.wrap (0 - n))) (w' := w) ?_ (hg.here hs h ⟨1, rfl⟩)
      simp [execOp, ho, val_int hx, Op.unary, Op.intArith]
    · exact h.elim
  · split at h
    · rename_i k n e; rw [e] at hx
      refine wp_value (v := .int k (bits .xor k (if k.signed then -1 else k.max) n)) (w' := w) ?_ (hg.here hs h ⟨1, rfl⟩)
      simp [execOp, ho, val_int hx, Op.unary, Op.intBits, bits]
    · exact h.elim
  · exact h.elim
theorem bytes_fold : ∀ (l : List UInt8) (s : ByteArray), (l.map fun b => (b.toNat : Int)).foldl (fun r n => r.push (UInt8.ofNat n.toNat)) s = ⟨s.data ++ l.toArray⟩
  | [], s => by simp
  | b :: l, s => by
    simp only [List.map_cons, List.foldl_cons]
    rw [bytes_fold l]
    simp [ByteArray.push]
theorem bytes_of : ∀ {xs : List AV}, (∀ x ∈ xs, ∃ b : UInt8, x = .int .u8 b.toNat) → ∃ l : List UInt8, xs = l.map (fun b : UInt8 => AV.int .u8 b.toNat) ∧ xs.map byteV = l
  | [], _ => ⟨[], rfl, rfl⟩
  | x :: xs, h => by
    obtain ⟨b, rfl⟩ := h x List.mem_cons_self
    obtain ⟨l, h1, h2⟩ := bytes_of (xs := xs) fun y hy => h y (List.mem_cons_of_mem _ hy)
    refine ⟨b :: l, by rw [h1]; rfl, ?_⟩
    rw [List.map_cons, h2]
    simp [byteV]
theorem run_str {src dst e : TypeId} {S : Nat → Nat → Prop} {n : Nat} {xs : List AV} {t : Tok} {v : Value} (hs : P.underlying src = some (.slice e)) (he : P.underlying e = some (.int .u8)) (hd : P.underlying dst = some .string)
    (hv : Val w S ρ n (.sl 1 xs t) v) (hb : ∀ x ∈ xs, ∃ b : UInt8, x = .int .u8 b.toNat) : (convert src dst v).run P w = .ok (.string ⟨(xs.map byteV).toArray⟩) w := by
  obtain ⟨ad, len, cap, rfl, hl, hc, _, hx⟩ := val_sl hv
  rw [run_convert_bytes_string w src dst e ad len cap hs he hd]
  obtain ⟨l, h1, h2⟩ := bytes_of hb
  cases ad with
  | none =>
    have : xs = [] := by
      rcases Decidable.em (xs = []) with h | h
      · exact h
      · obtain ⟨b, o, e, _⟩ := hx h; exact nomatch e
    subst this
    simp [Conv.bytesToString, Sem.run_pure]; rfl
  | some a =>
    have hll : l.length = len := by rw [hl, h1]; simp
    have hcells : ∀ j v, (l.map fun b => Value.int .u8 (b.toNat : Int))[j]? = some v → w.cell? (a.add j) = some v := by
      intro j v hj
      rw [List.getElem?_map, Option.map_eq_some_iff] at hj
      obtain ⟨b, hb', rfl⟩ := hj
      have hne : xs ≠ [] := by intro h; rw [h1] at h; simp at h; subst h; simp at hb'
      obtain ⟨bb, o, e, hx2⟩ := hx hne
      simp only [Option.some.injEq] at e
      subst e
      obtain ⟨vs, g1, g2, g3⟩ := hx2 j (.int .u8 b.toNat) (by rw [h1, List.getElem?_map, hb']; rfl)
      obtain ⟨u, rfl⟩ : ∃ u, vs = [u] := by
        cases vs with
        | nil => simp at g2
        | cons u r => cases r with
          | nil => exact ⟨u, rfl⟩
          | cons _ _ => simp at g2
      have hu : u = .int .u8 b.toNat := val_int g1.1
      have := (g3 0 u rfl).2.1
      rw [hu] at this
      have hadd : (⟨bb, o, none⟩ : Addr).add j = ⟨bb, o + j, none⟩ := by unfold Addr.add; split <;> simp_all
      rw [hadd]
      simpa [cellAt] using this
    have hlc := run_loadCells_list (P := P) w a (l.map fun b => Value.int .u8 (b.toNat : Int)) hcells
    rw [List.length_map, hll] at hlc
    have := run_bytesToString (P := P) w a len cap (l.map fun b => (b.toNat : Int)) (by rw [hlc, List.map_map]; rfl)
    rw [this, bytes_fold, h2]
    simp
theorem sound_convert (ht : TabOk P tab) {t t' : TypeId} {x : Operand} (ho : o.op = .convert t t' x) (hs : RelS ρ s a w) (h : aop (std P n₀) tab (.convert t t' x) s K E) (hg : Goes ρ s a w o.dst K next) : o.wp P a w next Q := by
  have hx := ev_val hs x
  simp only [aop] at h
  split at h
  case h_2 => exact h.elim
  rename_i hsrc
  obtain ⟨i0, d0, z0, hty0⟩ := ht.ok hsrc
  have h1 := run_und hty0 w
  split at h
  · rename_i k hk
    split at h
    case h_2 => exact h.elim
    rename_i k' n e; rw [e] at hx
    obtain ⟨i, d, z, hty⟩ := ht.kind hk (by simp)
    have hd : d = .int k := by
      have := hty.k; rw [hk] at this
      cases d <;> simp [tkOf] at this; rw [this]
    refine wp_value (v := .int k (k.wrap n)) (w' := w) ?_ (hg.here hs h ⟨1, rfl⟩)
    have h2 := run_und hty w
    rw [hd] at h2
    simp [execOp, ho, val_int hx, convert, h1, h2, Conv.intToInt]
  · rename_i hk
    split at h
    case h_2 => exact h.elim
    rename_i e hke
    split at h
    case h_2 => exact h.elim
    rename_i hee
    split at h
    case h_2 => exact h.elim
    rename_i xs tk hsl
    obtain ⟨hb, h⟩ := h
    obtain ⟨i, d, z, hty⟩ := ht.kind hk (by simp)
    have hd : d = .string := by
      have := hty.k; rw [hk] at this
      cases d <;> simp [tkOf] at this; rfl
    obtain ⟨i2, d2, z2, hty2⟩ := ht.kind hee (by simp)
    have hd2 : d2 = .int .u8 := by
      have := hty2.k; rw [hee] at this
      cases d2 <;> simp [tkOf] at this; rw [this]
    have hd0 : d0 = .slice e := by
      have := hty0.k; rw [hke] at this
      cases d0 <;> simp [tkOf] at this; rw [this]
    subst hd hd2 hd0
    have hv : Val w (Stay ρ s.hp) ρ s.hp.length (.sl 1 xs tk) (a.eval x) := by
      unfold asSl at hsl
      split at hsl
      · rename_i e; rw [e] at hx
        split at hsl
        · rename_i hz
          have hz := beN_t hz
          subst hz
          simp only [Option.some.injEq, Prod.mk.injEq] at hsl
          obtain ⟨rfl, rfl⟩ := hsl
          exact hx
        · simp at hsl
      · rename_i e; rw [e] at hx
        simp only [Option.some.injEq, Prod.mk.injEq] at hsl
        obtain ⟨rfl, rfl⟩ := hsl
        rw [val_nils hx]
        exact ⟨1, none, 0, 0, rfl, rfl, Nat.le_refl _, rfl, fun h => absurd rfl h⟩
      · simp at hsl
    refine wp_value (v := .string ⟨(xs.map byteV).toArray⟩) (w' := w) ?_ (hg.here hs h ⟨1, rfl⟩)
    have := run_str (ρ := ρ) hty0.und hty2.und hty.und hv hb
    simp [execOp, ho, this]
  · exact h.elim
theorem sound_fieldAddr (ht : TabOk P tab) {t : TypeId} {x : Operand} {f : Nat} (ho : o.op = .fieldAddr t x f) (hs : RelS ρ s a w) (h : aop (std P n₀) tab (.fieldAddr t x f) s K E) (hg : Goes ρ s a w o.dst K next) : o.wp P a w next Q := by
  have hx := ev_val hs x
  simp only [aop] at h
  split at h
  case h_2 => exact h.elim
  rename_i ft off hf
  split at h
  case h_2 => exact h.elim
  rename_i hpos
  unfold TK.fld at hf
  split at hf
  case h_2 => simp at hf
  rename_i fs hk
  obtain ⟨i, d, z, hty⟩ := ht.kind hk (by simp)
  obtain ⟨i', d', z', hty'⟩ := ht.pos hpos
  have hd : ∃ fields, d = .struct fields ∧ fs = fields.toList.map fun f => (f.type, f.offset) := by
    have := hty.k; rw [hk] at this
    cases d <;> simp [tkOf] at this; exact ⟨_, rfl, this⟩
  obtain ⟨fields, rfl, rfl⟩ := hd
  rw [nth_eq, List.getElem?_map, Option.map_eq_some_iff] at hf
  obtain ⟨fd, hfd, hfe⟩ := hf
  simp only [Prod.mk.injEq] at hfe
  obtain ⟨rfl, rfl⟩ := hfe
  have hpos' : (tab fd.type).size ≠ 0 := by have := hpos; simp [ltN_eq] at this; omega
  have run : ∀ {b o' : Nat}, a.eval x = .pointer (some ⟨b, o', none⟩) → (execOp a.eval o).run P w = .ok (.value (.pointer (some ⟨b, o' + fd.offset, none⟩))) w := by
    intro b o' e
    have h1 := run_und hty w
    have h2 := run_size hty' w
    have : fields[f]? = some fd := by simpa using hfd
    simp only [execOp, ho, Instr.fieldAt, e, Sem.run_bind, h1, Result.andThen_ok, this, Instr.sureAddr, Sem.run_pure, fieldPlace, h2, hpos', if_false, Addr.add]
    split
    · rename_i e0; simp [e0]
    · rfl
  split at h
  · rename_i id o' e; rw [e] at hx
    obtain ⟨hlt, hv⟩ := val_ptr hx
    exact wp_value (run hv) (hg.here hs h ⟨1, hlt, rfl⟩)
  · rename_i cs o' e; rw [e] at hx
    obtain ⟨b, o'', vs, hv, h1, h2⟩ := val_cptr hx
    obtain ⟨dd, h1⟩ := all2_depth h1
    exact wp_value (run hv) (hg.here hs h ⟨dd + 1, b, o'', vs, by rw [Nat.add_assoc], h1, h2⟩)
  · rename_i id z i o' e; rw [e] at hx
    obtain ⟨h1, b, o'', hv, h2⟩ := val_vp hx
    refine wp_value (run hv) (hg.here hs h ⟨1, h1, b, _, rfl, fun hp => ?_⟩)
    obtain ⟨k, e1, e2, e3⟩ := h2 hp
    exact ⟨k, e1, e2, by rw [e3]; omega⟩
  · rename_i t k o' e; rw [e] at hx
    obtain ⟨j, e1, h1, hv⟩ := val_fp hx
    exact wp_value (run hv) (hg.here hs h ⟨1, j, e1, h1, rfl⟩)
  · exact h.elim
theorem sound_field (ht : TabOk P tab) {t : TypeId} {x : Operand} {f : Nat} (ho : o.op = .field t x f) (hs : RelS ρ s a w) (h : aop (std P n₀) tab (.field t x f) s K E) (hg : Goes ρ s a w o.dst K next) : o.wp P a w next Q := by
  have hx := ev_val hs x
  simp only [aop] at h
  split at h
  case h_2 => exact h.elim
  rename_i ft off hf
  unfold TK.fld at hf
  split at hf
  case h_2 => simp at hf
  rename_i fs hk
  obtain ⟨i, d, z, hty⟩ := ht.kind hk (by simp)
  split at h
  case h_2 => exact h.elim
  rename_i cs e; rw [e] at hx
  obtain ⟨vs, hv, hc⟩ := val_agg hx
  split at h
  case h_2 => exact h.elim
  rename_i v hr
  have hok : (tab ft).ok = true := by unfold rd at hr; split at hr <;> simp_all
  obtain ⟨i', d', z', hty'⟩ := ht.ok hok
  have hd : ∃ fields, d = .struct fields ∧ fs = fields.toList.map fun f => (f.type, f.offset) := by
    have := hty.k; rw [hk] at this
    cases d <;> simp [tkOf] at this; exact ⟨_, rfl, this⟩
  obtain ⟨fields, rfl, rfl⟩ := hd
  rw [nth_eq, List.getElem?_map, Option.map_eq_some_iff] at hf
  obtain ⟨fd, hfd, hfe⟩ := hf
  simp only [Prod.mk.injEq] at hfe
  obtain ⟨rfl, rfl⟩ := hfe
  have hfd' : fields[f]? = some fd := by simpa using hfd
  have h1 := run_und hty w
  have h2 := run_size hty' w
  have h3 := run_agg hty' w
  unfold rd at hr
  simp only [hok] at hr
  split at hr
  · rename_i ha
    simp only [Option.map_eq_some_iff] at hr
    obtain ⟨r, hr, rfl⟩ := hr
    have hcut : r = (cs.drop fd.offset).take (tab fd.type).size := by
      rcases cut_eq _ _ _ hr with ⟨h1, _⟩ | ⟨h1, h2⟩
      · exact h1
      · simp [h1, h2]
    subst hcut
    have h2' : All2 (Val w (Stay ρ s.hp) ρ s.hp.length) ((cs.drop fd.offset).take (tab fd.type).size) ((vs.drop fd.offset).take (tab fd.type).size) := (hc.drop _).take _
    obtain ⟨dd, hdd⟩ := all2_depth h2'
    refine wp_value (v := .agg ((vs.drop fd.offset).take (tab fd.type).size).toArray) (w' := w) ?_ (hg.here hs h ⟨dd + 1, _, rfl, hdd⟩)
    have hex : vs.toArray.extract fd.offset (fd.offset + (tab fd.type).size) = ((vs.drop fd.offset).take (tab fd.type).size).toArray := by
      apply Array.ext'
      simp [List.extract_eq_take_drop]
    simp [execOp, ho, Instr.field, hv, h1, hfd', asAgg, part, h3, ha, h2, List.extract_eq_take_drop]
  · rename_i ha
    rw [nth_eq] at hr
    obtain ⟨u, hu, hvu⟩ := hc.get hr
    refine wp_value (v := u) (w' := w) ?_ (hg.here hs h hvu)
    simp [execOp, ho, Instr.field, hv, h1, hfd', asAgg, part, h3, ha, hu]
end
end Go.Pt
namespace Go.Pt
open Go
def plainB (w : World) (a : Addr) : Bool :=
  match w.heap[a.block]? with
  | some (.cells _ _ f) => f == (0, 0)
  | _ => false
theorem plainB_t {w : World} {a : Addr} (h : plainB w a = true) : ∃ c e, w.heap[a.block]? = some (.cells c e (0, 0)) := by
  unfold plainB at h
  split at h
  · rename_i c e f hc; have : f = (0, 0) := by simpa using h
    subst this; exact ⟨c, e, hc⟩
  · simp at h
theorem plainB_of {w : World} {a : Addr} {c e} (h : w.heap[a.block]? = some (.cells c e (0, 0))) : plainB w a = true := by
  unfold plainB; rw [h]; rfl
def eqVL (w : World) : TK → Value → Value → Option Bool
  | .int _, .int k a, .int k' b => if k = k' then some (a == b) else none
  | .bool, .bool a, .bool b => some (a == b)
  | .str, .string a, .string b => some (a == b)
  | .ptr _, .pointer none, .pointer b => some b.isNone
  | .ptr _, .pointer (some _), .pointer none => some false
  | .ptr _, .pointer (some a), .pointer (some b) => if plainB w a && plainB w b then some (a == b) else none
  | .map _ _, .map none, .map b => some b.isNone
  | .map _ _, .map (some _), .map none => some false
  | .func, .nilFunc, .nilFunc => some true
  | .func, .nilFunc, .func _ _ _ => some false
  | .func, .func _ _ _, .nilFunc => some false
  | _, _, _ => none
def eqsV (w : World) : List TK → List Value → List Value → Option Bool
  | [], [], [] => some true
  | k :: ks, x :: xs, y :: ys => match eqVL w k x y with
    | none => none
    | some b => match eqsV w ks xs ys with
      | none => none
      | some c => some (b && c)
  | _, _, _ => none
theorem eqsV_append {w : World} : ∀ (l : List TK) {m : List TK} {xs xs' ys ys' : List Value} {b : Bool}, xs.length = l.length → ys.length = l.length → eqsV w (l ++ m) (xs ++ xs') (ys ++ ys') = some b →
    ∃ c d, eqsV w l xs ys = some c ∧ eqsV w m xs' ys' = some d ∧ b = (c && d)
  | [], m, [], xs', [], ys', b, _, _, h => ⟨true, b, rfl, h, by simp⟩
  | k :: l, m, x :: xs, xs', y :: ys, ys', b, hx, hy, h => by
    simp only [List.cons_append, eqsV] at h
    cases h1 : eqVL w k x y with
    | none => rw [h1] at h; simp at h
    | some b1 =>
      rw [h1] at h
      cases h2 : eqsV w (l ++ m) (xs ++ xs') (ys ++ ys') with
      | none => rw [h2] at h; simp at h
      | some b2 =>
        rw [h2] at h
        obtain ⟨c, d, hc, hd, rfl⟩ := eqsV_append l (by simpa using hx) (by simpa using hy) h2
        simp only [Option.some.injEq] at h
        exact ⟨b1 && c, d, by simp [eqsV, h1, hc], hd, by rw [← h, Bool.and_assoc]⟩
def isAggT (P : Program) (t : TypeId) : Bool := ((P.underlying t).map aggOf).getD false
def asVal (P : Program) (t : TypeId) (xs : List Value) (x : Value) : Prop := if isAggT P t then x = .agg xs.toArray else xs = [x]
section
variable {P : Program} (w : World)
theorem eq_leaf {t : TypeId} {d : TypeDesc} (hu : P.underlying t = some d) (D : Nat) {x y : Value} {b : Bool} (h : eqVL w (tkOf d) x y = some b) (hz : ∀ e, d = .pointer e → (P.info? e).any (fun i => i.size != 0) = true) : (Op.equalIn (D + 1) t x y).run P w = .ok b w := by
  unfold eqVL at h
  split at h <;> first | (simp at h; done) | skip
  all_goals
    rename_i hk
    cases d <;> simp only [tkOf, reduceCtorEq] at hk
  all_goals first
    | (split at h
       · rename_i e; subst e; simp at h; subst h; exact run_equalIn_int w D t _ _ _ _ hu
       · simp at h)
    | (rename_i a b' e
       split at h
       case isFalse => simp at h
       rename_i hpl
       simp only [Bool.and_eq_true] at hpl
       simp only [Option.some.injEq] at h
       obtain ⟨c1, e1, g1⟩ := plainB_t hpl.1
       obtain ⟨c2, e2, g2⟩ := plainB_t hpl.2
       have hz := hz _ rfl
       simp only [Option.any_eq_true, bne_iff_ne] at hz
       obtain ⟨i, hi, hsz⟩ := hz
       subst h
       by_cases hab : a = b'
       · subst hab
         simp [Op.equalIn, run_underlying hu, sizeOf, typeInfo, hi, run_sameAddr_same]
       · have hf : (a == b') = false := by simpa using hab
         rw [hf]
         simp [Op.equalIn, run_underlying hu, sizeOf, typeInfo, hi, hsz, run_sameAddr_other w hab g1 g2])
    | (simp at h; subst h; simp [Op.equalIn, run_underlying hu]; done)
theorem run_part_agg {t : TypeId} {xs : Array Value} {off : Nat} {i : TypeInfo} (hi : P.info? t = some i) (hu : (P.underlying t).isSome) (ha : isAggT P t = true) : (part t xs off).run P w = .ok (.agg (xs.extract off (off + i.size))) w := by
  obtain ⟨d, hd⟩ := Option.isSome_iff_exists.1 hu
  have hs := run_sizeOf w hi
  simp only [Program.cellsOf, hi, Option.map_some, Option.getD_some] at hs
  simp only [isAggT, hd, Option.map_some, Option.getD_some] at ha
  cases d <;> simp only [aggOf, Bool.false_eq_true] at ha <;> simp [part, isAgg, run_underlying hd, hs]
theorem run_part_one {t : TypeId} {xs : Array Value} {off : Nat} {v : Value} (hu : (P.underlying t).isSome) (ha : isAggT P t = false) (hx : xs[off]? = some v) : (part t xs off).run P w = .ok v w := by
  obtain ⟨d, hd⟩ := Option.isSome_iff_exists.1 hu
  simp only [isAggT, hd, Option.map_some, Option.getD_some] at ha
  cases d <;> simp only [aggOf, reduceCtorEq] at ha <;> simp [part, isAgg, run_underlying hd, hx]
theorem leaves_und {d : Nat} {t : TypeId} {L : List TK} (h : leaves P d t = some L) : (P.underlying t).isSome := by
  cases d with
  | zero => simp [leaves] at h
  | succ d => simp only [leaves] at h; split at h <;> simp_all
theorem take_split {α : Type} (l : List α) (off m n : Nat) : (l.drop off).take (m + n) = (l.drop off).take m ++ (l.drop (off + m)).take n := by
  rw [List.take_add, List.drop_drop]
theorem eq_main : ∀ (d : Nat) {t : TypeId} {L : List TK}, leaves P d t = some L → ∀ (D : Nat), d ≤ D → ∀ {xs ys : List Value} {b : Bool}, xs.length = L.length → ys.length = L.length → eqsV w L xs ys = some b →
    ∀ {x y : Value}, asVal P t xs x → asVal P t ys y → (Op.equalIn D t x y).run P w = .ok b w := by
  intro d
  induction d with
  | zero => intro t L h; simp [leaves] at h
  | succ d ih =>
    intro t L h D hD xs ys b hx hy he x y hax hay
    obtain ⟨D, rfl⟩ : ∃ m, D = m + 1 := ⟨D - 1, by omega⟩
    have leafy : ∀ {k : TypeDesc}, P.underlying t = some k → aggOf k = false → L = [tkOf k] → (∀ e, k = .pointer e → (P.info? e).any (fun i => i.size != 0) = true) → (Op.equalIn (D + 1) t x y).run P w = .ok b w := by
      intro k hk ha hL hz
      subst hL
      simp only [asVal, isAggT, hk, Option.map_some, Option.getD_some, ha, Bool.false_eq_true, if_false] at hax hay
      subst hax; subst hay
      simp only [eqsV] at he
      cases h1 : eqVL w (tkOf k) x y with
      | none => rw [h1] at he; simp at he
      | some c => rw [h1] at he; simp at he; subst he; exact eq_leaf w hk D h1 hz
    simp only [leaves] at h
    split at h
    · rename_i fs hu
      split at h
      · simp at h
      · rename_i hp
        simp only [asVal, isAggT, hu, Option.map_some, Option.getD_some, aggOf, if_true] at hax hay
        subst hax; subst hay
        have hf : P.fieldsOf t = fs := by simp [Program.fieldsOf, hu]
        rw [run_equalIn_struct w D t _ _ (by rw [hf]; exact hu) (by simpa using hp), hf]
        have key : ∀ (fl : List Field) (off : Nat) (L : List TK) (b : Bool), leavesF P (leaves P d) fl off = some L → eqsV w L ((xs.drop off).take L.length) ((ys.drop off).take L.length) = some b → off + L.length ≤ xs.length → off + L.length ≤ ys.length →
            (Op.eqFields D xs.toArray ys.toArray fl).run P w = .ok b w := by
          intro fl
          induction fl with
          | nil => intro off L b hL he _ _; simp [leavesF] at hL; subst hL; simp [eqsV] at he; subst he; simp [Op.eqFields]
          | cons f fl ihf =>
            intro off L b hL he hlx hly
            simp only [leavesF] at hL
            split at hL
            · simp at hL
            · rename_i l hl
              split at hL
              case isFalse => simp at hL
              rename_i hc
              obtain ⟨hoff, hname, hsize⟩ := hc
              simp only [Option.map_eq_some_iff] at hL
              obtain ⟨m, hm, rfl⟩ := hL
              rw [List.length_append] at he hlx hly
              rw [take_split, take_split] at he
              obtain ⟨c, e, h1, h2, rfl⟩ := eqsV_append l (by simp; omega) (by simp; omega) he
              have hrest := ihf (off + l.length) m e hm h2 (by omega) (by omega)
              simp only [Option.map_eq_some_iff] at hsize
              obtain ⟨i, hi, hsz⟩ := hsize
              have hund := leaves_und hl
              have hpart : ∀ (zs : List Value), off + l.length ≤ zs.length → ∃ z, (part f.type zs.toArray f.offset).run P w = .ok z w ∧ asVal P f.type ((zs.drop off).take l.length) z := by
                intro zs hz
                cases ha : isAggT P f.type with
                | true =>
                  refine ⟨_, run_part_agg w hi hund ha, ?_⟩
                  simp only [asVal, ha, if_true, hsz, hoff]
                  congr 1
                  apply Array.ext'
                  simp [List.extract_eq_take_drop]
                | false =>
                  have l1 : l.length = 1 := by
                    cases d with
                    | zero => simp [leaves] at hl
                    | succ d =>
                      simp only [leaves] at hl
                      split at hl <;> first | (simp at hl; subst hl; rfl) | (simp at hl; done) | (split at hl <;> first | (simp at hl; subst hl; rfl) | (simp at hl; done)) | skip
                      rename_i hu'
                      simp [isAggT, hu', aggOf] at ha
                  have hlt : off < zs.length := by omega
                  refine ⟨zs[off], run_part_one w hund ha (by simp [hoff, hlt]), ?_⟩
                  simp only [asVal, ha, Bool.false_eq_true, if_false, l1]
                  rw [List.drop_eq_getElem_cons hlt, List.take_succ_cons, List.take_zero]
              obtain ⟨p, hp1, hp2⟩ := hpart xs (by omega)
              obtain ⟨q, hq1, hq2⟩ := hpart ys (by omega)
              have heq := ih hl D (by omega) (by simp; omega) (by simp; omega) h1 hp2 hq2
              rw [Op.eqFields]
              simp only [hname, ne_eq, not_false_eq_true, if_true, Sem.run_bind, hp1, hq1, heq, Result.andThen_ok]
              cases c
              · simp
              · simpa using hrest
        refine key fs.toList 0 L b h ?_ (by omega) (by omega)
        rw [List.drop_zero, List.drop_zero, List.take_of_length_le (by omega), List.take_of_length_le (by omega)]
        exact he
    all_goals first
      | (rename_i hu; simp only [Option.some.injEq] at h; exact leafy hu rfl h.symm (fun e he => by cases he))
      | (rename_i hu; split at h
         · rename_i hz; simp only [Option.some.injEq] at h; exact leafy hu rfl h.symm (fun e he => by cases he; exact hz)
         · simp at h)
      | (simp at h; done)
end
end Go.Pt
namespace Go.Pt
open Go
section
variable {P : Program} {n₀ : Nat} {tab : Nat → Ty} {w : World} {ρ : Ro} {s : St} {a : Act} {o : Oper} {K E : AV → List Ent → Prop} {next : Act → World → Prop} {Q : Exit → Act → World → Prop}
theorem kn_eq {k k' : IntKind} (h : beN (kn k) (kn k') = true) : k = k' := by
  cases k <;> cases k' <;> first | rfl | (simp [kn] at h)
theorem fp_eq (a : Fam) (t i j : Nat) {o : Nat} : ((⟨a.f t i, o, none⟩ : Addr) == ⟨a.f t j, o, none⟩) = ((i : Int) == (j : Int)) := by
  by_cases h : i = j
  · subst h; rw [beq_self_eq_true, beq_self_eq_true]
  · have h1 : ¬ (i : Int) = j := by omega
    have h2 : a.f t i ≠ a.f t j := fun e => h (a.inj _ _ _ e)
    rw [beq_eq_false_iff_ne.2 h1, beq_eq_false_iff_ne.2]
    intro e; exact h2 (by injection e)
theorem fp_leaf (hgk : Gok w ρ) {t t' o o' e : Nat} {k k' : Int} {v u : Value} {b : Bool}
    (h : (match beN t t' with | true => (match beN o o' with | true => some ((std P n₀).o.cmp .eql k k') | false => none) | false => none) = some b)
    (hx : ∃ j : Nat, k = j ∧ j < ρ.g.n t ∧ v = .pointer (some ⟨ρ.g.f t j, o, none⟩)) (hy : ∃ j : Nat, k' = j ∧ j < ρ.g.n t' ∧ u = .pointer (some ⟨ρ.g.f t' j, o', none⟩)) : eqVL w (.ptr e) v u = some b := by
  obtain ⟨i, rfl, hi, rfl⟩ := hx
  obtain ⟨j, rfl, hj, rfl⟩ := hy
  split at h
  case h_2 => simp at h
  rename_i e1; have := beN_t e1; subst this
  split at h
  case h_2 => simp at h
  rename_i e2; have := beN_t e2; subst this
  simp only [Option.some.injEq] at h; subst h
  obtain ⟨c1, t1, g1⟩ := hgk _ _ hi
  obtain ⟨c2, t2, g2⟩ := hgk _ _ hj
  have p1 : plainB w ⟨ρ.g.f t i, o, none⟩ = true := plainB_of g1
  have p2 : plainB w ⟨ρ.g.f t j, o, none⟩ = true := plainB_of g2
  simp only [eqVL, p1, p2, Bool.and_true, if_true, std, stdOps, fp_eq]
theorem leaf_sound {S : Nat → Nat → Prop} {n : Nat} {k : TK} {x y : AV} {v u : Value} {b : Bool} (hgk : Gok w ρ) (h : eqLeaf (std P n₀) k x y = some b) (hx : Val w S ρ n x v) (hy : Val w S ρ n y u) : eqVL w k v u = some b := by
  obtain ⟨d1, hx⟩ := hx
  obtain ⟨d2, hy⟩ := hy
  cases d1 with
  | zero => exact hx.elim
  | succ d1 =>
    cases d2 with
    | zero => exact hy.elim
    | succ d2 =>
      cases k <;> simp only [eqLeaf] at h
      case int =>
        cases x <;> first | (simp at h; done) | skip
        cases y <;> first | (simp at h; done) | skip
        simp only [Cz] at hx hy
        subst hx; subst hy
        dsimp only at h
        split at h
        · rename_i e
          have := kn_eq e; subst this
          simp only [Option.some.injEq] at h; subst h
          simp [eqVL, std, stdOps]
        · simp at h
      case bool =>
        have tel : ∀ {v : AV} {t : Bool} {u : Value} {d : Nat}, v.tell = some t → Cz w S ρ (d + 1) n v u → u = .bool t := by
          intro v t u d e h
          unfold AV.tell at e
          split at e <;> simp at e <;> subst e <;> exact h
        split at h
        · rename_i p hp
          split at h
          · rename_i q hq
            have := tel hp hx; subst this
            have := tel hq hy; subst this
            simp only [Option.some.injEq] at h; subst h
            simp [eqVL, std, stdOps]
          · simp at h
        · simp at h
      case str =>
        cases x <;> first | (simp at h; done) | skip
        cases y <;> first | (simp at h; done) | skip
        simp only [Cz] at hx hy
        subst hx; subst hy
        simp only [Option.some.injEq] at h; subst h
        simp [eqVL, std, stdOps]
      case other => simp at h
      case slice => simp at h
      case struct => simp at h
      case arr => simp at h
      case iface => simp at h
      case tup => simp at h
      all_goals
        cases x <;> first | (simp at h; done) | skip
        all_goals (cases y <;> first | (simp at h; done) | skip)
        all_goals
          simp only [Cz] at hx hy
        any_goals (simp only [Option.some.injEq] at h; subst h)
        all_goals first
          | exact fp_leaf hgk h hx hy
          | (subst hx; subst hy; rfl)
          | (subst hx; obtain ⟨_, rfl⟩ := hy; rfl)
          | (subst hy; obtain ⟨_, rfl⟩ := hx; rfl)
          | (subst hx; obtain ⟨_, _, _, rfl, _⟩ := hy; rfl)
          | (subst hy; obtain ⟨_, _, _, rfl, _⟩ := hx; rfl)
          | (subst hx; obtain ⟨_, rfl, _⟩ := hy; rfl)
          | (subst hy; obtain ⟨_, rfl, _⟩ := hx; rfl)
theorem all_sound {S : Nat → Nat → Prop} {n : Nat} (hgk : Gok w ρ) : ∀ {ks : List TK} {xs ys : List AV} {vs us : List Value} {b : Bool}, eqAll (std P n₀) ks xs ys = some b → All2 (Val w S ρ n) xs vs → All2 (Val w S ρ n) ys us →
    eqsV w ks vs us = some b ∧ vs.length = ks.length ∧ us.length = ks.length
  | [], [], [], [], [], b, h, _, _ => by simp [eqAll] at h; subst h; exact ⟨rfl, rfl, rfl⟩
  | k :: ks, x :: xs, y :: ys, v :: vs, u :: us, b, h, hx, hy => by
    simp only [eqAll] at h
    split at h
    · simp at h
    · rename_i c hc
      have h1 := leaf_sound hgk hc hx.1 hy.1
      split at h
      · split at h
        · split at h
          · simp only [Option.some.injEq] at h; subst h
            have e1 : vs = [] := by cases vs with | nil => rfl | cons _ _ => exact hx.2.elim
            have e2 : us = [] := by cases us with | nil => rfl | cons _ _ => exact hy.2.elim
            subst e1; subst e2
            simp [eqsV, h1]
          · simp at h
        · simp at h
      · split at h
        · simp at h
        · rename_i e he
          obtain ⟨h2, h3, h4⟩ := all_sound hgk he hx.2 hy.2
          simp only [Option.some.injEq] at h; subst h
          simp [eqsV, h1, h2, h3, h4, std, stdOps]
  | [], [], [], _ :: _, _, _, _, hx, _ => hx.elim
  | [], [], [], [], _ :: _, _, _, _, hy => hy.elim
  | [], _ :: _, _, _, _, _, h, _, _ => by simp [eqAll] at h
  | [], [], _ :: _, _, _, _, h, _, _ => by simp [eqAll] at h
  | _ :: _, [], _, _, _, _, h, _, _ => by simp [eqAll] at h
  | _ :: _, _ :: _, [], _, _, _, h, _, _ => by simp [eqAll] at h
  | _ :: _, _ :: _, _ :: _, [], _, _, _, hx, _ => hx.elim
  | _ :: _, _ :: _, _ :: _, _ :: _, [], _, _, _, hy => hy.elim
theorem run_eqT (ht : TabOk P tab) (hgk : Gok w ρ) {t : TypeId} {x y : AV} {v u : Value} {b : Bool} {S : Nat → Nat → Prop} {n : Nat} (h : eqT (std P n₀) (tab t) x y = some b) (hx : Val w S ρ n x v) (hy : Val w S ρ n y u) :
    ((binOp .eql t v u).run P w = .ok (.bool b) w ∧ (binOp .neq t v u).run P w = .ok (.bool (!b)) w) ∧ (∀ op p q, (eqGuard op t p q v u).run P w = .ok () w) := by
  unfold eqT at h
  split at h
  · simp at h
  rename_i ks hks
  have hno : tab t ≠ Ty.no := fun e => by rw [e] at hks; simp [Ty.no] at hks
  obtain ⟨i, d, z, hty⟩ := ht.of hno
  rw [hty.lv] at hks h
  have hlv : P.eqGuardType P.depth t = false ∧ leaves P 8 t = some (lvOf P t) := by
    unfold lvOf at hks ⊢
    split at hks
    · exact absurd rfl hks
    · rename_i hg
      refine ⟨by simpa using hg, ?_⟩
      simp only [hg, if_false, Bool.false_eq_true]
      cases hl : leaves P 8 t with
      | none => rw [hl] at hks; simp at hks
      | some l => simp
  split at h
  · rename_i ha
    have hagg : isAggT P t = true := by rw [hty.agg] at ha; simp [isAggT, hty.und, ha]
    cases x <;> first | (simp at h; done) | skip
    cases y <;> first | (simp at h; done) | skip
    rename_i xs ys
    obtain ⟨vs, rfl, h1⟩ := val_agg hx
    obtain ⟨us, rfl, h2⟩ := val_agg hy
    obtain ⟨h3, h4, h5⟩ := all_sound (P := P) hgk h h1 h2
    have hm := eq_main w 8 hlv.2 10000 (by omega) h4 h5 h3 (x := .agg vs.toArray) (y := .agg us.toArray) (by simp [asVal, hagg]) (by simp [asVal, hagg])
    exact ⟨⟨by rw [run_eql_struct, hm]; rfl, by rw [run_neq_struct, hm]; rfl⟩, fun op p q => run_eqGuard_agg w op t p q _ _ hlv.1⟩
  · rename_i ha
    have hagg : isAggT P t = false := by rw [hty.agg] at ha; simp [isAggT, hty.und, ha]
    obtain ⟨h3, h4, h5⟩ := all_sound (P := P) (vs := [v]) (us := [u]) hgk h ⟨hx, trivial⟩ ⟨hy, trivial⟩
    have hm := eq_main w 8 hlv.2 10000 (by omega) h4 h5 h3 (x := v) (y := u) (by simp [asVal, hagg]) (by simp [asVal, hagg])
    have hk : ∃ k, eqVL w k v u = some b := by
      cases hl : lvOf P t with
      | nil => exact absurd hl hks
      | cons k ks =>
        rw [hl] at h3 h4
        have : ks = [] := by simpa using h4
        subst this
        refine ⟨k, ?_⟩
        simp only [eqsV] at h3
        cases hc : eqVL w k v u with
        | none => rw [hc] at h3; simp at h3
        | some c => rw [hc] at h3; simpa using h3
    obtain ⟨k, hk⟩ := hk
    refine ⟨?_, fun op p q => ?_⟩
    · clear h3 h4 h5 h hx hy
      unfold eqVL at hk
      split at hk <;> first | (simp at hk; done) | skip
      · split at hk
        · rename_i e; subst e; simp only [Option.some.injEq] at hk; subst hk
          exact ⟨by simp [binOp, Op.intCmp], by simp [binOp, Op.intCmp, bne]⟩
        · simp at hk
      · exact ⟨by simp [binOp, Op.equal, Op.maxDepth, hm], by simp [binOp, Op.equal, Op.maxDepth, hm]⟩
      · simp only [Option.some.injEq] at hk; subst hk
        exact ⟨by simp [binOp, Op.stringOp, beq_toListBytes], by simp [binOp, Op.stringOp, beq_toListBytes]⟩
      all_goals exact ⟨by simp [binOp, Op.equal, Op.maxDepth, hm], by simp [binOp, Op.equal, Op.maxDepth, hm]⟩
    · cases op <;> first | rfl | skip
      all_goals
        unfold eqVL at hk
        split at hk <;> first | (simp at hk; done) | (simp [eqGuard]; done)
def intOp (p : BinOp) (k : IntKind) (x y : Int) : Sem Value :=
  match p with
  | .add | .sub | .mul => Op.intArith p k x y
  | .quo | .rem => Op.intDiv p k x y
  | .and | .or | .xor | .andNot => Op.intBits p k x y
  | _ => Op.intCmp p x y
theorem binOp_int {p : BinOp} {k : IntKind} {x y : Int} {t : TypeId} (hp : p ≠ .shl) (hp' : p ≠ .shr) : binOp p t (.int k x) (.int k y) = intOp p k x y := by
  cases p <;> first | exact absurd rfl hp | exact absurd rfl hp' | simp [binOp, intOp]
theorem guard_ok {p : BinOp} {t : TypeId} {x y : Operand} {u v : Value} (h : p ≠ .eql) (h' : p ≠ .neq) : (eqGuard p t x y u v).run P w = .ok () w := by
  cases p <;> first | exact absurd rfl h | exact absurd rfl h' | rfl
end
end Go.Pt
namespace Go.Pt
open Go
section
variable {P : Program} {n₀ : Nat} {tab : Nat → Ty} {w : World} {ρ : Ro} {s : St} {a : Act} {o : Oper} {K E : AV → List Ent → Prop} {next : Act → World → Prop} {Q : Exit → Act → World → Prop}
theorem run_binOp {p : BinOp} {t t' : TypeId} {x y : Operand} {r : Value} (ho : o.op = .binOp p t x y t') (hg : (eqGuard p t x y (a.eval x) (a.eval y)).run P w = .ok () w) (h : (binOp p t (a.eval x) (a.eval y)).run P w = .ok r w) :
    (execOp a.eval o).run P w = .ok (.value r) w := by
  simp [execOp, ho, hg, h]
theorem sound_binOp (ht : TabOk P tab) {p : BinOp} {t t' : TypeId} {x y : Operand} (ho : o.op = .binOp p t x y t') (hs : RelS ρ s a w) (h : aop (std P n₀) tab (.binOp p t x y t') s K E) (hg : Goes ρ s a w o.dst K next) : o.wp P a w next Q := by
  have hx := ev_val hs x
  have hy := ev_val hs y
  have arith : ∀ {k k' : IntKind} {m n : Int} {r : AV} {rv : Value}, p ≠ .eql → p ≠ .neq → p ≠ .shl → p ≠ .shr → s.ev x = .int k m → s.ev y = .int k' n → beN (kn k) (kn k') = true → K r s.hp →
      (intOp p k m n).run P w = .ok rv w → Val w (Stay ρ s.hp) ρ s.hp.length r rv → o.wp P a w next Q := by
    intro k k' m n r rv p1 p2 p3 p4 ex ey hk hkk hr hv
    have := kn_eq hk; subst this
    rw [ex] at hx; rw [ey] at hy
    refine wp_value (v := rv) (w' := w) (run_binOp ho (guard_ok p1 p2) ?_) (hg.here hs hkk hv)
    rw [val_int hx, val_int hy, binOp_int p3 p4]
    exact hr
  have shifts : ∀ {k k' : IntKind} {m n : Int}, p = .shl ∨ p = .shr → s.ev x = .int k m → s.ev y = .int k' n → 0 ≤ n → K (.int k (stdOps.sh p k m n)) s.hp → o.wp P a w next Q := by
    intro k k' m n hp ex ey h0 hk
    rw [ex] at hx; rw [ey] at hy
    refine wp_value (v := .int k (stdOps.sh p k m n)) (w' := w) (run_binOp ho (guard_ok (by rcases hp with e | e <;> simp [e]) (by rcases hp with e | e <;> simp [e])) ?_) (hg.here hs hk ⟨1, rfl⟩)
    rw [val_int hx, val_int hy]
    have : ¬ n < 0 := by omega
    rcases hp with e | e <;> subst e <;> simp [binOp, Op.shift, this, stdOps]
  have strs : ∀ {u v : ByteArray} {r : AV} {rv : Value}, p ≠ .eql → p ≠ .neq → p ≠ .shl → p ≠ .shr → s.ev x = .str u → s.ev y = .str v → K r s.hp → (Op.stringOp p u v).run P w = .ok rv w → Val w (Stay ρ s.hp) ρ s.hp.length r rv → o.wp P a w next Q := by
    intro u v r rv p1 p2 p3 p4 ex ey hk hr hv
    rw [ex] at hx; rw [ey] at hy
    refine wp_value (v := rv) (w' := w) (run_binOp ho (guard_ok p1 p2) ?_) (hg.here hs hk hv)
    rw [val_str hx, val_str hy]
    cases p <;> first | exact absurd rfl p1 | exact absurd rfl p2 | exact absurd rfl p3 | exact absurd rfl p4 | (simpa [binOp] using hr)
  have sln : ∀ {z : Nat} {xs : List AV} {tk : Tok} (q : BinOp), s.ev x = .sl z xs tk → s.ev y = .nils → (p = .eql ∨ p = .neq) → (∀ b : Bool, (xs ≠ [] → b = decide (p = .neq)) → K (.bool b) s.hp) → (∃ e, P.underlying t = some (.slice e)) → o.wp P a w next Q := by
    intro z xs tk q ex ey hp hk hu
    rw [ex] at hx; rw [ey] at hy
    obtain ⟨ad, len, cap, hv, hl, _, _, hne⟩ := val_sl hx
    have hv2 := val_nils hy
    obtain ⟨e, hu⟩ := hu
    have run' : ∀ D, (Op.equalIn (D + 1) t (.slice ad len cap) (.slice none 0 0)).run P w = .ok ad.isNone w := by
      intro D; cases ad <;> simp [Op.equalIn, run_underlying hu]
    have run := run' 9999
    have hgd : (eqGuard p t x y (a.eval x) (a.eval y)).run P w = .ok () w := by rw [hv, hv2]; cases p <;> rfl
    have hne' : xs ≠ [] → ad.isNone = false := fun e => by obtain ⟨b, o', e', _⟩ := hne e; simp [e']
    rcases hp with e | e <;> subst e
    · refine wp_value (v := .bool ad.isNone) (w' := w) (run_binOp ho hgd ?_) (hg.here hs (hk _ (by simpa using hne')) ⟨1, rfl⟩)
      rw [hv, hv2]; simp [binOp, Op.equal, Op.maxDepth, run]
    · refine wp_value (v := .bool (!ad.isNone)) (w' := w) (run_binOp ho hgd ?_) (hg.here hs (hk _ (fun e => by simp [hne' e])) ⟨1, rfl⟩)
      rw [hv, hv2]; simp [binOp, Op.equal, Op.maxDepth, run]
  have eqs : ∀ {b : Bool}, eqT (std P n₀) (tab t) (s.ev x) (s.ev y) = some b → (p = .eql ∧ K (.bool b) s.hp ∨ p = .neq ∧ K (.bool (!b)) s.hp) → o.wp P a w next Q := by
    intro b he hk
    obtain ⟨⟨h1, h2⟩, h3⟩ := run_eqT ht hs.rel.gok he hx hy
    rcases hk with ⟨e, hk⟩ | ⟨e, hk⟩ <;> subst e
    · exact wp_value (run_binOp ho (h3 _ _ _) h1) (hg.here hs hk ⟨1, rfl⟩)
    · exact wp_value (run_binOp ho (h3 _ _ _) h2) (hg.here hs hk ⟨1, rfl⟩)
  have cmps : p = .lss ∨ p = .leq ∨ p = .gtr ∨ p = .geq → cpA (std P n₀) p (s.ev x) (s.ev y) (fun v => K v s.hp) → o.wp P a w next Q := by
    intro hp h
    have n1 : p ≠ .eql := by rcases hp with e | e | e | e <;> simp [e]
    have n2 : p ≠ .neq := by rcases hp with e | e | e | e <;> simp [e]
    have n3 : p ≠ .shl := by rcases hp with e | e | e | e <;> simp [e]
    have n4 : p ≠ .shr := by rcases hp with e | e | e | e <;> simp [e]
    unfold cpA at h
    split at h
    · rename_i k m ex
      split at h
      · rename_i k' n ey
        split at h
        · rename_i hk
          refine arith n1 n2 n3 n4 ex ey hk h (rv := .bool (stdOps.cmp p m n)) ?_ ⟨1, rfl⟩
          rcases hp with e | e | e | e <;> subst e <;> simp [intOp, Op.intCmp, stdOps]
        · exact h.elim
      · exact h.elim
    · rename_i u ex
      split at h
      · rename_i v ey
        refine strs n1 n2 n3 n4 ex ey h (rv := .bool (stdOps.scmp p u v)) ?_ ⟨1, rfl⟩
        rcases hp with e | e | e | e <;> subst e <;> simp [Op.stringOp, stdOps]
      · exact h.elim
    · exact h.elim
  have nums : p = .sub ∨ p = .mul ∨ p = .and ∨ p = .or ∨ p = .xor ∨ p = .andNot ∨ p = .add → arA (std P n₀) p (s.ev x) (s.ev y) (fun v => K v s.hp) → o.wp P a w next Q := by
    intro hp h
    unfold arA at h
    split at h
    · rename_i k m ex
      split at h
      · rename_i k' n ey
        split at h
        · rename_i hk
          refine arith (by rcases hp with e | e | e | e | e | e | e <;> simp [e]) (by rcases hp with e | e | e | e | e | e | e <;> simp [e]) (by rcases hp with e | e | e | e | e | e | e <;> simp [e]) (by rcases hp with e | e | e | e | e | e | e <;> simp [e]) ex ey hk h (rv := .int k (stdOps.ar p k m n)) ?_ ⟨1, rfl⟩
          rcases hp with e | e | e | e | e | e | e <;> subst e <;> simp [intOp, Op.intArith, Op.intBits, stdOps, bits]
        · exact h.elim
      · exact h.elim
    · rename_i u ex
      split at h
      · rename_i v ey
        split at h
        · refine strs (by simp) (by simp) (by simp) (by simp) ex ey h.2 (rv := .string (u ++ v)) ?_ ⟨1, rfl⟩
          have : ¬ ((u.size + v.size : Nat) : Int) > IntKind.i64.max := by have := h.1; simp [IntKind.max, IntKind.bits, IntKind.signed]; omega
          simp only [Op.stringOp, this, if_false, Sem.run_pure]
        · exact h.elim
      · exact h.elim
    · exact h.elim
  have divs : p = .quo ∨ p = .rem → dvA (std P n₀) p (s.ev x) (s.ev y) (fun v => K v s.hp) → o.wp P a w next Q := by
    intro hp h
    unfold dvA at h
    split at h
    · rename_i k m ex
      split at h
      · rename_i k' n ey
        split at h
        · rename_i hk
          have h0 : n ≠ 0 := h.1
          refine arith (by rcases hp with e | e <;> simp [e]) (by rcases hp with e | e <;> simp [e]) (by rcases hp with e | e <;> simp [e]) (by rcases hp with e | e <;> simp [e]) ex ey hk h.2 (rv := .int k (stdOps.ar p k m n)) ?_ ⟨1, rfl⟩
          rcases hp with e | e <;> subst e <;> simp [intOp, Op.intDiv, h0, stdOps]
        · exact h.elim
      · exact h.elim
    · exact h.elim
  have shfs : p = .shl ∨ p = .shr → shA (std P n₀) p (s.ev x) (s.ev y) (fun v => K v s.hp) → o.wp P a w next Q := by
    intro hp h
    unfold shA at h
    split at h
    · rename_i ex; split at h
      · rename_i ey; exact shifts hp ex ey h.1 h.2
      · exact h.elim
    · exact h.elim
  have equs : ∀ n : Bool, p = (if n then .neq else .eql) → eqA (std P n₀) (tab t) n (s.ev x) (s.ev y) (fun v => K v s.hp) → o.wp P a w next Q := by
    intro n hp h
    unfold eqA at h
    split at h
    · rename_i z xs tk ex ey
      refine sln .eql ex ey (by cases n <;> simp [hp]) (fun b hb => h.2 b (fun e => by rw [hb e]; cases n <;> simp [hp])) ?_
      obtain ⟨e, he⟩ := h.1
      obtain ⟨i, d, z', hty⟩ := ht.kind he (by simp)
      have := hty.k; rw [he] at this
      cases d <;> simp [tkOf] at this; exact ⟨_, hty.und⟩
    · split at h
      · rename_i b he
        cases n
        · exact eqs he (.inl ⟨by simp [hp], h⟩)
        · exact eqs he (.inr ⟨by simp [hp], h⟩)
      · exact h.elim
  simp only [aop] at h
  replace h := binB_A h
  cases p
  case eql => exact equs false rfl h
  case neq => exact equs true rfl h
  case lss => exact cmps (by simp) h
  case leq => exact cmps (by simp) h
  case gtr => exact cmps (by simp) h
  case geq => exact cmps (by simp) h
  case shl => exact shfs (by simp) h
  case shr => exact shfs (by simp) h
  case quo => exact divs (by simp) h
  case rem => exact divs (by simp) h
  all_goals exact nums (by simp) h
theorem sound_makeFunc {fn : Fn} {f1 cs : Array Operand} (ho : o.op = .makeFunc fn f1 cs) (hs : RelS ρ s a w) (h : aop (std P n₀) tab (.makeFunc fn f1 cs) s K E) (hg : Goes ρ s a w o.dst K next) : o.wp P a w next Q := by
  simp only [aop] at h
  split at h
  case h_2 => exact h.elim
  rename_i f
  split at h
  case h_2 => exact h.elim
  rename_i e
  have he : f1 = #[] := by cases f1; simp_all
  subst he
  obtain ⟨d, hd⟩ := all2_depth (evs_val hs cs.toList)
  refine wp_value (v := .func (.func f) #[] (cs.toList.map a.eval).toArray) (w' := w) ?_ (hg.here hs h ⟨d + 1, _, rfl, hd⟩)
  have : cs.map a.eval = (cs.toList.map a.eval).toArray := by apply Array.ext'; simp
  simp [execOp, ho, Instr.makeFunc, this]
theorem sound_makeMap {t : TypeId} {r : Option Operand} (ho : o.op = .makeMap t r) (hs : RelS ρ s a w) (h : aop (std P n₀) tab (.makeMap t r) s K E) (hg : Goes ρ s a w o.dst K next) : o.wp P a w next Q := by
  simp only [aop] at h
  split at h
  case h_2 => exact h.elim
  rw [lenN_eq, snoc_eq] at h
  have hst := hs.rel.push (ρ' := ρ.add s.hp.length w.heap.size) (w' := w.alloc (.map #[] 0)) (e := .mp []) (fun i hi => by simp [Ro.add]; omega) (fun _ _ => rfl) rfl rfl rfl rfl rfl (fun k ob hk => heap_alloc_old hk) (by rw [World.size_alloc]; omega)
    (fun b o ho => by simp only [OwnE, Ro.add, if_true] at ho; omega) (fun hst => ⟨[], 0, by simp only [Ro.add, if_true]; exact heap_alloc_new, trivial, by simp, by simp⟩)
  refine wp_value (v := .map (some w.heap.size)) (w' := w.alloc (.map #[] 0)) ?_ (hg.go _ _ _ _ _ h ⟨1, ?_⟩ hst.1 hst.2)
  · simp [execOp, ho, Instr.makeMap]
  · simp [Cz, Ro.add]
theorem repl_eq {α : Type} (l : List α) : ∀ n, repl n l = (List.replicate n l).flatten
  | 0 => rfl
  | n + 1 => by simp [repl, repl_eq l n, List.replicate_succ]
theorem lits_repl {S : Nat → Nat → Prop} {m : Nat} (l : List Value) : ∀ n, All2 (Val w S ρ m) (repl n (l.map lit)) (repl n l)
  | 0 => trivial
  | n + 1 => (lits_val l).append (lits_repl l n)
theorem repl_length {α : Type} (l : List α) : ∀ n, (repl n l).length = n * l.length
  | 0 => by simp [repl]
  | n + 1 => by simp [repl, repl_length l n, Nat.succ_mul, Nat.add_comm]
theorem repl_get {α : Type} (l : List α) : ∀ (n i : Nat), i < n * l.length → (repl n l)[i]? = l[i % l.length]?
  | 0, i, h => by simp at h
  | n + 1, i, h => by
    by_cases hi : i < l.length
    · rw [repl, List.getElem?_append_left hi, Nat.mod_eq_of_lt hi]
    · have hl : l.length ≤ i := Nat.le_of_not_lt hi
      rw [repl, List.getElem?_append_right hl, repl_get l n _ (by rw [Nat.succ_mul] at h; omega), ← Nat.mod_eq_sub_mod hl]
theorem zeros_repl (z : Array Value) (n k : Nat) (hk : k = n * z.size) : ((Array.range k).map fun i => z[i % z.size]!) = (repl n z.toList).toArray := by
  subst hk
  apply Array.ext'
  apply List.ext_getElem?
  intro i
  simp only [Array.toList_map, Array.toList_range, List.getElem?_map]
  by_cases hi : i < n * z.size
  · rw [repl_get _ _ _ (by simpa using hi)]
    have hz : 0 < z.size := by rcases Nat.eq_zero_or_pos z.size with e | e; · simp [e] at hi
                               · exact e
    have hm : i % z.size < z.size := Nat.mod_lt _ hz
    simp [hi, hm]
  · rw [List.getElem?_eq_none (by simp; omega), List.getElem?_eq_none (by rw [repl_length]; simp; omega)]; rfl
theorem sound_indexAddr (ht : TabOk P tab) {t : TypeId} {x y : Operand} (ho : o.op = .indexAddr t x y) (hs : RelS ρ s a w) (h : aop (std P n₀) tab (.indexAddr t x y) s K E) (hg : Goes ρ s a w o.dst K next) : o.wp P a w next Q := by
  have hx := ev_val hs x
  have hy := ev_val hs y
  simp only [aop] at h
  split at h
  case h_2 => exact h.elim
  rename_i k n ey
  rw [ey] at hy
  have hyv := val_int hy
  split at h
  · rename_i e hk
    obtain ⟨i, d, z, hty⟩ := ht.kind hk (by simp)
    have hd : d = .slice e := by have := hty.k; rw [hk] at this; cases d <;> simp [tkOf] at this; rw [this]
    subst hd
    split at h
    · exact h.elim
    rename_i hok
    obtain ⟨i', d', z', hty'⟩ := ht.ok hok
    have run : ∀ {b o' len cap : Nat}, a.eval x = .slice (some ⟨b, o', none⟩) len cap → 0 ≤ n ∧ n < len → (execOp a.eval o).run P w = .ok (.value (.pointer (some ⟨b, o' + n.toNat * (tab e).size, none⟩))) w := by
      intro b o' len cap hv hn
      have h1 := run_und hty w
      have h2 := run_size hty' w
      simp only [execOp, ho, Instr.indexAt, hyv, hv, Sem.run_bind, asIntOf, Sem.run_pure, Result.andThen_ok, h1, hn.1, hn.2, and_self, if_true, h2, Addr.add]
      split
      · rename_i e0; simp [e0]
      · rfl
    split at h
    · rename_i z'' xs tk ex
      rw [ex] at hx
      split at h
      case h_2 => exact h.elim
      rename_i hz
      have hz' := beN_t hz
      obtain ⟨ad, len, cap, hv, hl, hcap, _, hne⟩ := val_sl hx
      obtain ⟨⟨h0, h1⟩, hkk⟩ := h
      replace h1 : n < (xs.length : Int) := h1
      replace hkk : ∀ e, xs[n.toNat]? = some e → _ := hkk
      have hlt : n.toNat < xs.length := by omega
      obtain ⟨b, o', rfl, hget⟩ := hne (by intro e; simp [e] at hlt)
      obtain ⟨vs, hc, hlen, hrd⟩ := hget n.toNat xs[n.toNat] (by simp [hlt])
      have hK := hkk xs[n.toNat] (by simp [hlt])
      obtain ⟨dd, hdd⟩ := all2_depth hc
      refine wp_value (run hv ⟨h0, by omega⟩) (hg.here hs hK ⟨dd + 1, b, o' + n.toNat * (tab e).size, vs, by simp, hdd, by rw [← hz']; exact hrd⟩)
    · rename_i id off z'' len ex
      rw [ex] at hx
      split at h
      case h_2 => exact h.elim
      rename_i hz
      have hz' := beN_t hz
      obtain ⟨dd, hx⟩ := hx
      cases dd with
      | zero => exact hx.elim
      | succ dd =>
        obtain ⟨hid, cap, hcap, hv⟩ := hx
        refine wp_value (run hv h.1) (hg.here hs h.2 ⟨1, hid, ?_⟩)
        rw [hz']
    · rename_i id z'' lo len N ex
      rw [ex] at hx
      split at h
      case h_2 => exact h.elim
      rename_i hz
      have hz' := beN_t hz
      obtain ⟨hid, ad, ln, cap, hv, hl, hcap, hadr, hloc⟩ := val_vs hx
      obtain ⟨⟨h0, h1⟩, h⟩ := h
      replace h1 : n < len := h1
      replace h : K (.vp id z'' (lo + n) 0) s.hp := h
      have hrun : ∃ b o', (execOp a.eval o).run P w = .ok (.value (.pointer (some ⟨b, o', none⟩))) w ∧ ((ρ.t id).pos = 0 → ∃ k : Nat, lo + n = k ∧ b = (ρ.t id).blk ∧ o' = (ρ.t id).start + k * z'' + 0) := by
        obtain ⟨b, o', rfl⟩ := hadr (by omega)
        refine ⟨b, _, run hv ⟨h0, by omega⟩, fun hp => ?_⟩
        obtain ⟨l, e1, e2, e3⟩ := hloc
        obtain ⟨e4, e5⟩ := e3 hp (by omega)
        simp only [Option.some.injEq, Addr.mk.injEq, and_true] at e4
        refine ⟨l + n.toNat, by omega, e4.1, ?_⟩
        rw [e4.2, Nat.add_mul, hz']; omega
      obtain ⟨b, o', hr, hlo⟩ := hrun
      exact wp_value hr (hg.here hs h ⟨1, hid, b, o', rfl, hlo⟩)
    · exact h.elim
  · rename_i len e hk
    obtain ⟨i, d, z, hty⟩ := ht.kind hk (by simp)
    have hd : d = .array len e := by have := hty.k; rw [hk] at this; cases d <;> simp [tkOf] at this; obtain ⟨rfl, rfl⟩ := this; rfl
    subst hd
    split at h
    · exact h.elim
    rename_i hok
    obtain ⟨i', d', z', hty'⟩ := ht.ok hok
    have run : ∀ {b o' : Nat}, a.eval x = .pointer (some ⟨b, o', none⟩) → 0 ≤ n ∧ n < len → (execOp a.eval o).run P w = .ok (.value (.pointer (some ⟨b, o' + n.toNat * (tab e).size, none⟩))) w := by
      intro b o' hv hn
      have h1 := run_und hty w
      have h2 := run_size hty' w
      simp only [execOp, ho, Instr.indexAt, hyv, hv, Sem.run_bind, asIntOf, Sem.run_pure, Result.andThen_ok, h1, hn.1, hn.2, and_self, if_true, h2, Addr.add, Instr.sureAddr]
      split
      · rename_i e0; simp [e0]
      · rfl
    split at h
    · rename_i id off ex
      rw [ex] at hx
      obtain ⟨hid, hv⟩ := val_ptr hx
      exact wp_value (run hv h.1) (hg.here hs h.2 ⟨1, hid, rfl⟩)
    · rename_i cs off ex
      rw [ex] at hx
      obtain ⟨b, o', vs, hv, h1, h2⟩ := val_cptr hx
      obtain ⟨dd, h1⟩ := all2_depth h1
      exact wp_value (run hv h.1) (hg.here hs h.2 ⟨dd + 1, b, o', vs, by rw [Nat.add_assoc], h1, h2⟩)
    · exact h.elim
  · exact h.elim
theorem sound_index (ht : TabOk P tab) {t : TypeId} {x y : Operand} (ho : o.op = .index t x y) (hs : RelS ρ s a w) (h : aop (std P n₀) tab (.index t x y) s K E) (hg : Goes ρ s a w o.dst K next) : o.wp P a w next Q := by
  have hx := ev_val hs x
  have hy := ev_val hs y
  simp only [aop] at h
  split at h
  case h_2 => exact h.elim
  rename_i k n ey
  rw [ey] at hy
  have hyv := val_int hy
  split at h
  case h_2 => exact h.elim
  rename_i hk
  obtain ⟨i, d, z, hty⟩ := ht.kind hk (by simp)
  have hd : d = .string := by have := hty.k; rw [hk] at this; cases d <;> simp [tkOf] at this; rfl
  subst hd
  split at h
  case h_2 => exact h.elim
  rename_i b ex
  rw [ex] at hx
  have hxv := val_str hx
  obtain ⟨⟨h0, h1⟩, hkk⟩ := h
  replace h1 : n < (b.size : Int) := h1
  replace hkk : ∀ c : UInt8, b.data.toList[n.toNat]? = some c → _ := hkk
  have hlt : n.toNat < b.data.toList.length := by simp; have : b.data.size = b.size := rfl; omega
  have hK := hkk b.data.toList[n.toNat] (by simp)
  refine wp_value (v := .int .u8 (b.data.toList[n.toNat]).toNat) (w' := w) ?_ (hg.here hs hK ⟨1, rfl⟩)
  have hu := run_und hty w
  have hb : b[n.toNat]? = some b.data.toList[n.toNat] := by
    have hs : n.toNat < b.size := by omega
    rw [getElem?_pos b n.toNat hs]
    rfl
  simp only [execOp, ho, Instr.index, hyv, hxv, Sem.run_bind, asIntOf, Sem.run_pure, Result.andThen_ok, hu, h0, if_true, hb]
end
end Go.Pt
namespace Go.Pt
open Go
section
variable {P : Program} {n₀ : Nat} {tab : Nat → Ty} {w : World} {ρ : Ro} {s : St} {a : Act} {o : Oper} {K E : AV → List Ent → Prop} {next : Act → World → Prop} {Q : Exit → Act → World → Prop}
theorem foldl_set (l : List Value) : ∀ (off k : Nat) (cs : Array Value), off + k + l.length ≤ cs.size →
    ((l.zipIdx k).foldl (fun cs (x : Value × Nat) => cs.setIfInBounds (off + x.2) x.1) cs).toList = cs.toList.take (off + k) ++ l ++ cs.toList.drop (off + k + l.length) := by
  induction l with
  | nil => intro off k cs h; simp
  | cons v l ih =>
    intro off k cs h
    simp only [List.zipIdx_cons, List.foldl_cons]
    rw [ih off (k + 1) _ (by simp at h ⊢; omega)]
    simp only [Array.toList_setIfInBounds, List.length_cons]
    have hlt : off + k < cs.toList.length := by simp at h ⊢; omega
    rw [show off + (k + 1) = off + k + 1 by omega, List.take_succ_eq_append_getElem (by simpa using hlt)]
    rw [List.getElem_set_self, List.take_set_of_le (Nat.le_refl _), List.drop_set_of_lt (by omega)]
    simp [Nat.add_assoc, Nat.add_comm, Nat.add_left_comm]
theorem fill_sound {S : Nat → Nat → Prop} {n : Nat} {place : Nat → Option (Nat × Nat)} : ∀ {ps : List (Nat × AV)} {vs : List (Nat × Value)} {cs cs' : List AV} {us : List Value},
    fillA place cs ps = some cs' → All2 (fun (x : Nat × AV) (y : Nat × Value) => x.1 = y.1 ∧ Val w S ρ n x.2 y.2) ps vs → All2 (Val w S ρ n) cs us →
    ∃ us', Instr.fill place us.toArray vs = some us' ∧ All2 (Val w S ρ n) cs' us'.toList
  | [], [], cs, cs', us, h, _, hc => by simp [fillA] at h; subst h; exact ⟨_, rfl, hc⟩
  | (i, x) :: ps, (j, v) :: vs, cs, cs', us, h, hp, hc => by
    obtain ⟨⟨hij, hv⟩, hp⟩ := hp
    simp only at hij hv
    subst hij
    simp only [fillA] at h
    split at h
    · simp at h
    · rename_i off size hpl
      split at h
      · simp at h
      · rename_i hsz
        split at h
        · simp at h
        rename_i hnil
        split at h
        · simp at h
        rename_i h1
        split at h
        · simp at h
        · rename_i cs'' hup
          obtain ⟨hvc, _⟩ := hv.cells h1
          have hl := hvc.length
          have hcl := hc.length
          have hsz' : x.cells.length = size := by have := beN_t hsz; rwa [lenN_eq] at this
          obtain ⟨rfl, hle, hlen⟩ := upon_eq _ _ _ hup
          have hvs : v.cells.size = size := by rw [← hsz', hl]; simp
          by_cases he : x.cells = []
          · exact absurd he hnil
          · have hb := hle he
            have hfold := foldl_set v.cells.toList off 0 us.toArray (by simp; simp at hl; omega)
            have key : (v.cells.zipIdx.foldl (fun cs (x : Value × Nat) => cs.setIfInBounds (off + x.2) x.1) us.toArray).toList = us.take off ++ v.cells.toList ++ us.drop (off + v.cells.toList.length) := by
              rw [← Array.foldl_toList, Array.toList_zipIdx]
              simpa using hfold
            have hc2 : All2 (Val w S ρ n) (cs.take off ++ x.cells ++ cs.drop (off + x.cells.length)) (us.take off ++ v.cells.toList ++ us.drop (off + v.cells.toList.length)) :=
              ((hc.take off).append hvc).append (by rw [hl]; exact hc.drop _)
            rw [← key] at hc2
            obtain ⟨us', h2, h3⟩ := fill_sound (us := _) h hp hc2
            refine ⟨us', ?_, h3⟩
            simp only [Instr.fill, hpl, hvs]
            rw [if_neg (by simp; simp at hl; omega)]
            simpa using h2
  | [], _ :: _, _, _, _, _, h, _ => h.elim
  | _ :: _, [], _, _, _, _, h, _ => h.elim
theorem parts_eq (s : St) : ∀ l : List (Nat × Operand), parts s l = l.map fun x => (x.1, s.ev x.2)
  | [] => rfl
  | (_, _) :: l => by simp [parts, parts_eq s l]
theorem parts_val (hs : RelS ρ s a w) : ∀ l : List (Nat × Operand), All2 (fun (x : Nat × AV) (y : Nat × Value) => x.1 = y.1 ∧ Val w (Stay ρ s.hp) ρ s.hp.length x.2 y.2) (parts s l) (l.map fun x => (x.1, a.eval x.2))
  | [] => trivial
  | (_, x) :: l => ⟨⟨rfl, ev_val hs x⟩, parts_val hs l⟩
theorem toList_parts (ps : Array (Nat × Operand)) : (ps.map fun (i, x) => (i, a.eval x)).toList = ps.toList.map fun x => (x.1, a.eval x.2) := by simp
theorem fill_mono {p p' : Nat → Option (Nat × Nat)} (hp : ∀ i x, p i = some x → p' i = some x) : ∀ {vs : List (Nat × Value)} {us us' : Array Value}, Instr.fill p us vs = some us' → Instr.fill p' us vs = some us'
  | [], _, _, h => h
  | (i, v) :: vs, us, us', h => by
    simp only [Instr.fill] at h ⊢
    cases hpi : p i with
    | none => rw [hpi] at h; simp at h
    | some x =>
      obtain ⟨off, size⟩ := x
      rw [hpi] at h
      rw [hp i _ hpi]
      dsimp only at h ⊢
      split at h
      · simp at h
      · rename_i hc
        rw [if_neg hc]
        exact fill_mono hp h
theorem mapM_places : ∀ fs : List Field, (fs.all fun f => (P.info? f.type).isSome) = true → ∃ pl, fs.mapM (fun f => (P.info? f.type).map fun i => (f.offset, i.size)) = some pl ∧ ∀ (i : Nat) f, fs[i]? = some f → ∃ j, P.info? f.type = some j ∧ pl[i]? = some (f.offset, j.size)
  | [], _ => ⟨[], by simp, fun i f h => by simp at h⟩
  | f :: fs, h => by
    simp only [List.all_cons, Bool.and_eq_true] at h
    obtain ⟨j, hj⟩ := Option.isSome_iff_exists.1 h.1
    obtain ⟨pl, h1, h2⟩ := mapM_places fs h.2
    refine ⟨(f.offset, j.size) :: pl, by simp [List.mapM_cons, hj, h1], fun i g hg => ?_⟩
    cases i with
    | zero => simp at hg; subst hg; exact ⟨j, hj, rfl⟩
    | succ i => simpa using h2 i g (by simpa using hg)
theorem sound_build (ht : TabOk P tab) {t : TypeId} {ps : Array (Nat × Operand)} (ho : o.op = .build t ps) (hs : RelS ρ s a w) (h : aop (std P n₀) tab (.build t ps) s K E) (hg : Goes ρ s a w o.dst K next) : o.wp P a w next Q := by
  simp only [aop] at h
  split at h
  case h_2 => exact h.elim
  rename_i hagg
  split at h
  case h_2 => exact h.elim
  rename_i cs hf
  obtain ⟨i, d, z, hty⟩ := ht.agg hagg
  rw [hty.zeros] at hf
  obtain ⟨us, h1, h2⟩ := fill_sound (us := z.cells.toList) hf (parts_val hs ps.toList) (lits_val _)
  obtain ⟨dd, hdd⟩ := all2_depth h2
  refine wp_value (v := .agg us) (w' := w) ?_ (hg.here hs h ⟨dd + 1, us.toList, by simp, hdd⟩)
  rw [← toList_parts] at h1
  rw [hty.agg] at hagg
  have hk := hty.k
  have hsub := hty.sub
  suffices hb : P.built t (ps.map fun (i, x) => (i, a.eval x)).toList = some us by
    simp only [execOp, ho, Sem.run_bind, run_build w t _ us hb, Result.andThen_ok, Sem.run_pure]
  unfold Program.built
  rw [hty.info, hty.und]
  cases d <;> simp only [aggOf, Bool.false_eq_true] at hagg
  · rename_i len e
    rw [hk] at h1
    simp only [subOk] at hsub
    obtain ⟨ie, hie⟩ := Option.isSome_iff_exists.1 hsub
    simp only [hty.zero, hie]
    refine fill_mono (fun j x hx => ?_) (by simpa using h1)
    simp only [tkOf, places] at hx
    split at hx
    · rename_i hok
      obtain ⟨i', d', z', hty'⟩ := ht.ok hok
      have := hty'.info; rw [hie] at this; simp at this; subst this
      rw [← hx, hty'.size]
    · simp at hx
  · rename_i fields
    rw [hk] at h1
    simp only [subOk] at hsub
    obtain ⟨pl, hpl, hget⟩ := mapM_places fields.toList hsub
    simp only [hty.zero, hpl]
    refine fill_mono (fun j x hx => ?_) (by simpa using h1)
    simp only [tkOf, places] at hx
    rw [nth_eq, List.getElem?_map] at hx
    cases hfj : fields.toList[j]? with
    | none => rw [hfj] at hx; simp at hx
    | some f =>
      rw [hfj] at hx
      simp only [Option.map_some] at hx
      obtain ⟨ij, hij, hpj⟩ := hget j f hfj
      split at hx
      · rename_i hok
        obtain ⟨i', d', z', hty'⟩ := ht.ok hok
        have := hty'.info; rw [hij] at this; simp at this; subst this
        simp only [Option.some.injEq] at hx
        rw [← hx, hty'.size]
        simpa using hpj
      · simp at hx
theorem chunks_sound {T : Ty} (h1 : T.agg = false → T.size = 1) : ∀ (n : Nat) {cs xs : List AV}, chunks T n cs = some xs → (∀ y ∈ cs, y.one = true) → xs.length = n ∧ (∀ (j : Nat) x, xs[j]? = some x → x.cells = (cs.drop (j * T.size)).take T.size ∧ x.cells.length = T.size)
  | 0, [], xs, h, _ => by simp [chunks] at h; subst h; simp
  | 0, _ :: _, xs, h, _ => by simp [chunks] at h
  | n + 1, cs, xs, h, ho => by
    simp only [chunks] at h
    split at h
    · simp at h
    · rename_i v hr
      simp only [Option.map_eq_some_iff] at h
      obtain ⟨r, hr', rfl⟩ := h
      obtain ⟨h2, h3⟩ := chunks_sound h1 n hr' (fun y hy => ho y (List.mem_of_mem_drop hy))
      have hv : v.cells = cs.take T.size ∧ v.cells.length = T.size := by
        unfold rd at hr
        split at hr
        case h_2 => simp at hr
        split at hr
        · simp only [Option.map_eq_some_iff] at hr
          obtain ⟨c, hc, rfl⟩ := hr
          rcases cut_eq _ _ _ hc with ⟨rfl, hl⟩ | ⟨e, rfl⟩
          · simp [AV.cells]; omega
          · simp [AV.cells, e]
        · rename_i ha
          rw [nth_eq] at hr
          have := h1 ha
          cases cs with
          | nil => simp at hr
          | cons c cs => simp at hr; subst hr; rw [cells_one (ho c (by simp)), this]; simp
      refine ⟨by simp [h2], fun j x hx => ?_⟩
      cases j with
      | zero => simp at hx; subst hx; simpa using hv
      | succ j =>
        obtain ⟨h4, h5⟩ := h3 j x (by simpa using hx)
        refine ⟨?_, h5⟩
        rw [h4, List.drop_drop, Nat.succ_mul, Nat.add_comm]
theorem rel_free (h : Rel ρ s.hp w) (ob : Obj) : Stp ρ s.hp w ρ s.hp (w.alloc ob) ∧ Rel ρ s.hp (w.alloc ob) := by
  have hst : Stp ρ s.hp w ρ s.hp (w.alloc ob) := ⟨rfl, rfl, rfl, by rw [World.size_alloc]; omega, fun b o hb => ⟨o, heap_alloc_old hb, okBlk.refl _ _⟩, fun _ _ _ h => h, Nat.le_refl _, fun _ _ => rfl, fun _ _ => .inl rfl, rfl, rfl, .refl _ _⟩
  refine ⟨hst, fun i e hi => (h.ents i e hi).keep hst.keeps (lt_of_get hi) rfl (fun hk => ?_) (fun _ _ c e f hc => ⟨c, heap_alloc_old hc, rfl, fun _ _ _ => rfl⟩) (fun t os he => ⟨rfl, fun j hj => by subst he; obtain ⟨vs, e', h4⟩ := fam_cells h hi j hj; rw [heap_alloc_old h4, h4]⟩), h.disj, fun b o ho => by have := h.xlt b o ho; rw [World.size_alloc]; omega, h.xown, hst.gok h⟩
  have := h.ents i e hi
  cases e with
  | var cs => obtain ⟨vs, e, _, h2⟩ := this; rw [heap_alloc_old h2, h2]
  | mp es => obtain ⟨ms, c, h1, _⟩ := this; rw [heap_alloc_old h1, h1]
  | lp ps asg body env k st pe => obtain ⟨r, h1, _⟩ := this; rw [heap_alloc_old h1, h1]
  | _ => simp [Ent.blk] at hk
theorem new_stay (h : Rel ρ s.hp w) (o' : Nat) : Stay ρ s.hp w.heap.size o' := by
  refine ⟨?_, fun hx => by have := h.xlt _ _ hx; omega⟩
  rintro ⟨i, e, hi, ho⟩
  have := own_lt h hi ho
  omega
theorem ones_of {S : Nat → Nat → Prop} {n : Nat} : ∀ {xs : List AV} {vs : List Value}, All2 (Val w S ρ n) xs vs → (∀ x ∈ xs, x.one = true) → ∀ u ∈ vs, u.oneCell' = true
  | [], [], _, _ => by simp
  | x :: xs, v :: vs, h, h1 => by
    intro u hu
    rcases List.mem_cons.1 hu with rfl | hu
    · have hx := h1 x (by simp)
      have := h.1.cells (by rw [cells_one hx]; simp [allOne, hx])
      rw [cells_one hx] at this
      have hl := this.1.length
      cases u <;> first | rfl | skip
      · obtain ⟨d, h⟩ := h.1
        cases d with
        | zero => exact h.elim
        | succ d => cases x <;> simp [AV.one] at hx <;> simp [Cz] at h
      · exact this.2 _ (by simp [Value.cells])
    · exact ones_of h.2 (fun y hy => h1 y (by simp [hy])) u hu
  | [], _ :: _, h, _ => h.elim
  | _ :: _, [], h, _ => h.elim
theorem new_reads {w' : World} {b s' : Nat} {S : Nat → Nat → Prop} {ρ' : Ro} {cs xs : List AV} {vs : List Value} {c : Array Value} {e : TypeId} {f : Nat × Nat} {k0 : Nat}
    (hb : w'.heap[b]? = some (.cells c e f)) (hc : ∀ (j : Nat) u, vs[j]? = some u → c[k0 + j]? = some u) (hS : ∀ j, j < vs.length → S b (k0 + j)) (ho : ∀ u ∈ vs, u.oneCell' = true) (hv : All2 (Val w' S ρ' 0) cs vs)
    (hx : ∀ (j : Nat) x, xs[j]? = some x → x.cells = (cs.drop (j * s')).take s' ∧ x.cells.length = s') :
    ∀ (i : Nat) x, xs[i]? = some x → ∃ us, All2 (Val w' S ρ' 0) x.cells us ∧ us.length = s' ∧ Reads w' S b (k0 + i * s') us := by
  intro i x hi
  obtain ⟨h1, h2⟩ := hx i x hi
  have h3 : All2 (Val w' S ρ' 0) ((cs.drop (i * s')).take s') ((vs.drop (i * s')).take s') := (hv.drop _).take _
  rw [← h1] at h3
  refine ⟨_, h3, by rw [← h3.length, h2], fun j u hu => ?_⟩
  rw [List.getElem?_take] at hu
  split at hu
  · rw [List.getElem?_drop] at hu
    refine ⟨?_, ?_, ho u (List.mem_of_getElem? hu)⟩
    · have := lt_of_get hu
      rw [Nat.add_assoc]; exact hS _ this
    · rw [cellAt_cells hb, Nat.add_assoc]; exact hc _ _ hu
  · simp at hu
theorem vals_depth2 {S : Nat → Nat → Prop} {s' : Nat} {b k0 : Nat} : ∀ {xs : List AV}, (∀ (i : Nat) x, xs[i]? = some x → ∃ us, All2 (Val w S ρ 0) x.cells us ∧ us.length = s' ∧ Reads w S b (k0 + i * s') us) →
    ∃ d, ∀ (i : Nat) x, xs[i]? = some x → ∃ us, All2 (Cz w S ρ d 0) x.cells us ∧ us.length = s' ∧ Reads w S b (k0 + i * s') us := by
  intro xs
  induction xs generalizing k0 with
  | nil => intro _; exact ⟨0, fun i x h => by simp at h⟩
  | cons x xs ih =>
    intro h
    obtain ⟨d, hd⟩ := ih (k0 := k0 + s') (fun i y hy => by
      have := h (i + 1) y (by simpa using hy)
      rwa [Nat.succ_mul, Nat.add_comm (i * s') s', ← Nat.add_assoc] at this)
    obtain ⟨us, h1, h2, h3⟩ := h 0 x rfl
    obtain ⟨d', h1⟩ := all2_depth h1
    refine ⟨max d d', fun i y hy => ?_⟩
    cases i with
    | zero => simp at hy; subst hy; exact ⟨us, h1.imp fun _ _ => Cz.le (Nat.le_max_right _ _), h2, h3⟩
    | succ i =>
      obtain ⟨us, k1, k2, k3⟩ := hd i y (by simpa using hy)
      refine ⟨us, k1.imp fun _ _ => Cz.le (Nat.le_max_left _ _), k2, ?_⟩
      rwa [Nat.succ_mul, Nat.add_comm (i * s') s', ← Nat.add_assoc]
theorem sound_buildSlice (ht : TabOk P tab) {t : TypeId} {n : Nat} {ps : Array (Nat × Operand)} (ho : o.op = .buildSlice t n ps) (hs : RelS ρ s a w) (h : aop (std P n₀) tab (.buildSlice t n ps) s K E) (hg : Goes ρ s a w o.dst K next) : o.wp P a w next Q := by
  simp only [aop] at h
  split at h
  case h_2 => exact h.elim
  rename_i e hk
  split at h
  case h_2 => exact h.elim
  rename_i hok
  split at h
  case h_2 => exact h.elim
  rename_i hlt
  split at h
  case h_2 => exact h.elim
  rename_i cs hf
  split at h
  case h_2 => exact h.elim
  rename_i xs hch
  simp only [Option.bind_eq_some_iff] at hch
  obtain ⟨cs', hfree, hch⟩ := hch
  obtain ⟨i, d, z, hty⟩ := ht.kind hk (by simp)
  have hd : d = .slice e := by have := hty.k; rw [hk] at this; cases d <;> simp [tkOf] at this; rw [this]
  subst hd
  obtain ⟨i', d', z', hty'⟩ := ht.ok hok
  rw [hty'.zeros] at hf
  obtain ⟨us, h1, h2⟩ := fill_sound (us := repl n z'.cells.toList) hf (parts_val hs ps.toList) (lits_repl _ _)
  have hst := rel_free hs.rel (.cells us e)
  obtain ⟨h3, h3'⟩ := freeT_val hfree (h2.imp fun _ _ h => h.step hst.1)
  obtain ⟨h4, h5⟩ := chunks_sound hty'.one n hch h3'
  have hrd := new_reads (k0 := 0) (b := w.heap.size) (S := Stay ρ s.hp) (ρ' := ρ) (w' := w.alloc (.cells us e)) heap_alloc_new (fun j u hu => by simpa using hu) (fun j _ => new_stay hs.rel _) (ones_of h3 h3') h3 h5
  obtain ⟨dd, hdd⟩ := vals_depth2 hrd
  refine wp_value (v := .slice (some ⟨w.heap.size, 0, none⟩) n n) (w' := w.alloc (.cells us e)) ?_ (hg.go _ _ _ _ _ h ⟨dd + 1, _, _, _, rfl, h4.symm, Nat.le_refl _, rfl, fun _ => ⟨_, _, rfl, hdd⟩⟩ hst.1 hst.2)
  have hsz := run_size hty' w
  have hz := run_zero hty' w
  have hu := run_und hty w
  have hlt' : ¬ n * (tab e).size > 2 ^ 24 := by simp only [ltN_eq] at hlt; omega
  rw [← toList_parts] at h1
  have hzero : ∀ zz : Array Value, (n * (tab e).size = 0 → zz = #[]) → (n * (tab e).size ≠ 0 → zz = z'.cells) → ((Array.range (n * (tab e).size)).map fun i => zz[i % zz.size]!) = (repl n z'.cells.toList).toArray := by
    intro zz e0 e1
    by_cases he : n * (tab e).size = 0
    · rw [he]
      apply Array.ext'
      have : (repl n z'.cells.toList).length = 0 := by rw [repl_length]; simp [hty'.zsize, he]
      simp [List.eq_nil_of_length_eq_zero this]
    · rw [e1 he]; exact zeros_repl _ _ _ (by rw [hty'.zsize])
  by_cases he : n * (tab e).size = 0
  · have hz0 := hzero #[] (fun _ => rfl) (fun e => absurd he e)
    simp only [he] at hz0
    have h00 : ¬ (0 : Nat) > 2 ^ 24 := by omega
    simp only [execOp, ho, Instr.buildSlice, Sem.run_bind, hu, hsz, Result.andThen_ok, Sem.run_ite, he, h00, if_true, if_false, Sem.run_pure, hz0, h1]
    simp [newRow]
  · have hz0 := hzero z'.cells (fun e => absurd e he) (fun _ => rfl)
    simp only [execOp, ho, Instr.buildSlice, Sem.run_bind, hu, hsz, Result.andThen_ok, Sem.run_ite, he, hlt', if_false, hz, Sem.run_pure, hz0, h1]
    simp [newRow]
end
end Go.Pt
namespace Go.Pt
open Go
section
variable {P : Program} {n₀ : Nat} {tab : Nat → Ty} {w : World} {ρ : Ro} {s : St} {a : Act} {o : Oper} {K E : AV → List Ent → Prop} {next : Act → World → Prop} {Q : Exit → Act → World → Prop}
theorem own_tipAt {σ : List Ent} {id p p' : Nat} {l : Loc} (hid : σ[id]? = some (.tip p)) (b o' : Nat) :
    Own (ρ.tipAt id l) (setN σ id (.tip p')) b o' ↔ (l.blk = b ∧ l.start ≤ o' ∧ o' < l.stop) ∨ ∃ i e, i ≠ id ∧ σ[i]? = some e ∧ OwnE ρ i b o' e := by
  constructor
  · rintro ⟨i, e, hi, ho⟩
    rcases get_set hi with ⟨rfl, rfl⟩ | ⟨hne, hi⟩
    · left; simpa [OwnE, Ro.tipAt] using ho
    · right; refine ⟨i, e, hne, hi, ?_⟩
      cases e <;> first | (simp [OwnE, Ro.tipAt, hne] at ho; done) | simpa [OwnE, Ro.tipAt, hne] using ho
  · rintro (h | ⟨i, e, hne, hi, ho⟩)
    · exact ⟨id, .tip p', by rw [setN_eq]; simp [lt_of_get hid], by simpa [OwnE, Ro.tipAt] using h⟩
    · refine ⟨i, e, by rw [setN_eq, List.getElem?_set]; simp [Ne.symm hne, hi], ?_⟩
      cases e <;> first | (simp [OwnE] at ho; done) | simpa [OwnE, Ro.tipAt, hne] using ho
theorem rel_tip (h : Rel ρ s.hp w) {id p p' : Nat} {l : Loc} {w' : World} (hid : s.hp[id]? = some (.tip p)) (hlp : l.pos = p') (hp : p < p' ∨ l = ρ.t id ∧ p = p')
    (hos : w'.os = w.os) (htape : w'.tape = w.tape) (hout : w'.output = w.output) (hsz : w.heap.size ≤ w'.heap.size)
    (hfrm : ∀ (b : Nat) ob, w.heap[b]? = some ob → ∃ ob', w'.heap[b]? = some ob' ∧ okBlk (fun o' => (ρ.t id).blk = b ∧ (ρ.t id).start ≤ o' ∧ o' < (ρ.t id).stop) ob ob')
    (hl : l.start ≤ l.stop) (hown : ∀ o', l.start ≤ o' → o' < l.stop → (l.blk = (ρ.t id).blk ∧ (ρ.t id).start ≤ o' ∧ o' < (ρ.t id).stop) ∨ w.heap.size ≤ l.blk)
    (hok : l.start < l.stop → ∃ c e f, w'.heap[l.blk]? = some (.cells c e f) ∧ l.stop ≤ c.size ∧ ∀ o', l.start ≤ o' → o' < l.stop → w'.frozen? ⟨l.blk, o', none⟩ = false) :
    Stp ρ s.hp w (ρ.tipAt id l) (setN s.hp id (.tip p')) w' ∧ Rel (ρ.tipAt id l) (setN s.hp id (.tip p')) w' := by
  have hidl := lt_of_get hid
  have hlen : (setN s.hp id (.tip p')).length = s.hp.length := by rw [setN_eq]; simp
  obtain ⟨hpos, _, _⟩ := h.ents id _ hid
  have mine : ∀ b o', ((ρ.t id).blk = b ∧ (ρ.t id).start ≤ o' ∧ o' < (ρ.t id).stop) → Own ρ s.hp b o' := fun b o' ho => ⟨id, _, hid, ho⟩
  have hlt : ∀ i f b o', s.hp[i]? = some f → OwnE ρ i b o' f → b < w.heap.size := by
    intro i f b o' hi hf
    exact own_lt h hi hf
  have hst : Stp ρ s.hp w (ρ.tipAt id l) (setN s.hp id (.tip p')) w' := by
    refine ⟨hos, htape, hout, hsz, fun b ob hb => ?_, fun b o' hb ho => ?_, by omega, fun _ _ => rfl, fun i hi => ?_, rfl, rfl, .set (fun _ _ h => by cases h)⟩
    · obtain ⟨ob', h1, h2⟩ := hfrm b ob hb
      exact ⟨ob', h1, (okBlk.refl (Own ρ s.hp b) ob).trans h2 (fun o' ho => mine b o' ho)⟩
    · rcases (own_tipAt hid b o').1 ho with ⟨rfl, h1, h2⟩ | ⟨i, e, hne, hi, ho⟩
      · rcases hown o' h1 h2 with ⟨e, h3, h4⟩ | h3
        · rw [e]; exact mine _ _ ⟨rfl, h3, h4⟩
        · omega
      · exact ⟨i, e, hi, ho⟩
    · by_cases e : i = id
      · subst e
        simp only [Ro.tipAt, if_true]
        rcases hp with hp | ⟨hp, _⟩
        · right; omega
        · left; exact hp
      · left; simp [Ro.tipAt, e]
  refine ⟨hst, fun i e hi => ?_, fun i j e f b o' hi hj he hf => ?_, fun b o' ho => by have := h.xlt b o' ho; omega, fun b o' ho hx => h.xown b o' (hst.own b o' (h.xlt b o' hx) ho) hx, hst.gok h⟩
  · rcases get_set hi with ⟨rfl, rfl⟩ | ⟨hne, hi⟩
    · refine ⟨by simp [Ro.tipAt, hlp], by simpa [Ro.tipAt] using hl, ?_⟩
      simpa [Ro.tipAt] using hok
    · refine (h.ents i e hi).keep hst.keeps (lt_of_get hi) (by simp [Ro.tipAt, hne]) (fun hk => ?_) (fun hp hlt' c e' f hc => ?_) (fun t os he => ⟨rfl, fun j hj => ?_⟩)
      · have hex : ∃ ob, w.heap[ρ.b i]? = some ob ∧ ∀ o', OwnE ρ i (ρ.b i) o' e := by
          have := h.ents i e hi
          cases e with
          | var cs => obtain ⟨vs, e, _, h2⟩ := this; exact ⟨_, h2, fun _ => rfl⟩
          | mp es => obtain ⟨ms, c, h1, _⟩ := this; exact ⟨_, h1, fun _ => rfl⟩
          | lp ps asg body env k st pe => obtain ⟨r, h1, _⟩ := this; exact ⟨_, h1, fun _ => rfl⟩
          | _ => simp [Ent.blk] at hk
        obtain ⟨ob, hob, hall⟩ := hex
        obtain ⟨ob', h1, h2⟩ := hfrm _ _ hob
        have hno : ∀ o', ¬ ((ρ.t id).blk = ρ.b i ∧ (ρ.t id).start ≤ o' ∧ o' < (ρ.t id).stop) := fun o' ho => hne (h.disj i id e _ (ρ.b i) o' hi hid (hall o') ho)
        rw [h1, hob]
        cases ob with
        | cells c e' f =>
          obtain ⟨c', rfl, h3, h4⟩ := h2
          congr 2
          apply Array.ext_getElem?
          intro j; exact h4 j (hno j)
        | loop r =>
          obtain ⟨r', rfl, _, h4⟩ := h2
          rcases h4 with h4 | h4
          · exact absurd h4 (hno 0)
          · rw [h4]
        | _ => rcases h2 with h2 | h2
               · exact absurd h2 (hno 0)
               · rw [h2]
      · obtain ⟨ob', h1, c', rfl, h3, h4⟩ := hfrm _ _ hc
        refine ⟨c', h1, h3, fun o' g1 g2 => h4 o' fun ho => hne (h.disj i id e _ (ρ.t i).blk o' hi hid ?_ ho)⟩
        cases e <;> first | (simp [Ent.row] at hp; done) | exact ⟨rfl, g1, g2⟩
      · subst he
        obtain ⟨vs, e', h4⟩ := fam_cells h hi j hj
        obtain ⟨ob', k1, c', rfl, h5, h6⟩ := hfrm _ _ h4
        rw [k1, h4]
        congr 2
        apply Array.ext_getElem?
        intro o
        exact h6 o fun ho => hne (h.disj i id _ _ _ o hi hid ⟨j, hj, rfl⟩ ho)
  · have split : ∀ i e, (setN s.hp id (.tip p'))[i]? = some e → OwnE (ρ.tipAt id l) i b o' e → (i = id ∧ l.blk = b ∧ l.start ≤ o' ∧ o' < l.stop) ∨ (i ≠ id ∧ s.hp[i]? = some e ∧ OwnE ρ i b o' e) := by
      intro i e hi he
      rcases get_set hi with ⟨rfl, rfl⟩ | ⟨hne, hi⟩
      · left; exact ⟨rfl, by simpa [OwnE, Ro.tipAt] using he⟩
      · right; refine ⟨hne, hi, ?_⟩
        cases e <;> first | (simp [OwnE, Ro.tipAt, hne] at he; done) | simpa [OwnE, Ro.tipAt, hne] using he
    have clash : ∀ i e, i ≠ id → s.hp[i]? = some e → OwnE ρ i b o' e → l.blk = b → l.start ≤ o' → o' < l.stop → False := by
      intro i e hne hi he hb h1 h2
      rcases hown o' h1 h2 with ⟨e1, h3, h4⟩ | h3
      · exact hne (h.disj i id e _ b o' hi hid he ⟨by rw [← hb, e1], h3, h4⟩)
      · have := hlt i e b o' hi he; omega
    rcases split i e hi he with ⟨rfl, h1, h2, h3⟩ | ⟨hne, hi', he'⟩ <;> rcases split j f hj hf with ⟨rfl, k1, k2, k3⟩ | ⟨hne', hj', hf'⟩
    · rfl
    · exact (clash j f hne' hj' hf' h1 h2 h3).elim
    · exact (clash i e hne hi' he' k1 k2 k3).elim
    · exact h.disj i j e f b o' hi' hj' he' hf'
structure Apps (P : Program) (w : World) (S : Nat → Nat → Prop) (ρ : Ro) (size : Nat) (tx : TypeId) (x : Value) (ys : List AV) (news : List Value) : Prop where
  src : ∀ w' : World, (∀ b o u, S b o → cellAt w b o = some u → cellAt w' b o = some u) → Src P size tx x ys.length news w'
  cells : ∀ (i : Nat) y, ys[i]? = some y → ∃ vs, All2 (Val w S ρ 0) y.cells vs ∧ vs.length = size ∧ ∀ (j : Nat) u, vs[j]? = some u → news[i * size + j]? = some u
theorem flat_cells {S : Nat → Nat → Prop} {size b k0 : Nat} : ∀ {xs : List AV}, (∀ (i : Nat) x, xs[i]? = some x → ∃ us, All2 (Val w S ρ 0) x.cells us ∧ us.length = size ∧ Reads w S b (k0 + i * size) us) →
    ∃ all : List Value, all.length = xs.length * size ∧ Reads w S b k0 all ∧ ∀ (i : Nat) x, xs[i]? = some x → ∃ us, All2 (Val w S ρ 0) x.cells us ∧ us.length = size ∧ ∀ (j : Nat) u, us[j]? = some u → all[i * size + j]? = some u := by
  intro xs
  induction xs generalizing k0 with
  | nil => intro _; exact ⟨[], by simp, fun j u hu => by simp at hu, fun i x h => by simp at h⟩
  | cons x xs ih =>
    intro h
    obtain ⟨all, h1, h2, h3⟩ := ih (k0 := k0 + size) (fun i y hy => by
      have := h (i + 1) y (by simpa using hy)
      rwa [Nat.succ_mul, Nat.add_comm (i * size) size, ← Nat.add_assoc] at this)
    obtain ⟨us, g1, g2, g3⟩ := h 0 x rfl
    refine ⟨us ++ all, by simp [h1, g2, Nat.succ_mul, Nat.add_comm], fun j u hu => ?_, fun i y hy => ?_⟩
    · by_cases hj : j < us.length
      · rw [List.getElem?_append_left hj] at hu
        have := g3 j u hu
        simpa using this
      · rw [List.getElem?_append_right (Nat.le_of_not_lt hj)] at hu
        have := h2 _ u hu
        rwa [g2, show k0 + size + (j - size) = k0 + j by omega] at this
    · cases i with
      | zero =>
        simp at hy; subst hy
        exact ⟨us, g1, g2, fun j u hu => by rw [Nat.zero_mul, Nat.zero_add, List.getElem?_append_left (lt_of_get hu)]; exact hu⟩
      | succ i =>
        obtain ⟨vs, k1, k2, k3⟩ := h3 i y (by simpa using hy)
        refine ⟨vs, k1, k2, fun j u hu => ?_⟩
        rw [Nat.succ_mul, Nat.add_comm (i * size) size, Nat.add_assoc, List.getElem?_append_right (by omega), g2, show size + (i * size + j) - size = i * size + j by omega]
        exact k3 j u hu
theorem und_slice (ht : TabOk P tab) {u e' : TypeId} (hu : (tab u).k = .slice e') : P.underlying u = some (.slice e') := by
  obtain ⟨i, d, z, hty⟩ := ht.kind hu (by simp)
  have hd : d = .slice e' := by have := hty.k; rw [hu] at this; cases d <;> simp [tkOf] at this; rw [this]
  rw [← hd]; exact hty.und
theorem Apps.ofSl {u e' : TypeId} (hu : P.underlying u = some (.slice e')) {S : Nat → Nat → Prop} {n size : Nat} {ys : List AV} {tk : Tok} {v : Value} (h : Val w S ρ n (.sl size ys tk) v) :
    ∃ news, Apps P w S ρ size u v ys news ∧ ∀ b o l c, v = .slice (some ⟨b, o, none⟩) l c → Reads w S b o news := by
  obtain ⟨ad, len, cap, rfl, hl, _, _, hne⟩ := val_sl h
  by_cases he : ys = []
  · subst he
    simp only [List.length_nil] at hl
    subst hl
    cases ad with
    | none => exact ⟨[], ⟨fun w' _ => by simpa using Src.ofNil w' hu cap, fun i y h => by simp at h⟩, fun _ _ _ _ _ j u h => by simp at h⟩
    | some ad => exact ⟨[], ⟨fun w' _ => by simpa using Src.ofSlice w' hu ad 0 cap [] (by simp) (by simp) (by simp), fun i y h => by simp at h⟩, fun _ _ _ _ _ j u h => by simp at h⟩
  · obtain ⟨b, o', rfl, hget⟩ := hne he
    obtain ⟨all, h1, h2, h3⟩ := flat_cells hget
    refine ⟨all, ⟨fun w' hw => ?_, h3⟩, fun b' o'' l c e => by
      simp only [Value.slice.injEq, Option.some.injEq, Addr.mk.injEq, and_true] at e
      obtain ⟨⟨rfl, rfl⟩, _⟩ := e; exact h2⟩
    rw [hl]
    refine Src.ofSlice w' hu _ _ cap all h1 (fun j x hx => ?_) (fun x hx => ?_)
    · have := hw _ _ _ (h2 j x hx).1 (h2 j x hx).2.1
      simp only [cellAt] at this
      unfold Addr.add
      split
      · rename_i e; subst e; simpa using this
      · exact this
    · obtain ⟨j, hj⟩ := List.mem_iff_getElem?.1 hx
      exact (h2 j x hj).2.2
theorem Apps.ofNils {u e' : TypeId} (hu : P.underlying u = some (.slice e')) {S : Nat → Nat → Prop} {size : Nat} : Apps P w S ρ size u (.slice none 0 0) [] [] :=
  ⟨fun w' _ => by simpa using Src.ofNil w' hu 0, fun i y h => by simp at h⟩
theorem Apps.ofStr (ht : TabOk P tab) {u : TypeId} (hu : (tab u).k = .str) {S : Nat → Nat → Prop} (b : ByteArray) : Apps P w S ρ 1 u (.string b) (bytesOf b) (byteCells b) := by
  obtain ⟨i, d, z, hty⟩ := ht.kind hu (by simp)
  have hd : d = .string := by have := hty.k; rw [hu] at this; cases d <;> simp [tkOf] at this; rfl
  subst hd
  have hl : (bytesOf b).length = b.size := by simp [bytesOf]
  refine ⟨fun w' _ => by rw [hl]; exact Src.ofString w' hty.und b, fun i y hy => ?_⟩
  simp only [bytesOf, List.getElem?_map, Option.map_eq_some_iff] at hy
  obtain ⟨c, hc, rfl⟩ := hy
  refine ⟨[.int .u8 c.toNat], ⟨⟨1, rfl⟩, trivial⟩, rfl, fun j x hx => ?_⟩
  cases j with
  | zero => simp at hx; subst hx; simp only [byteCells, Nat.mul_one, Nat.add_zero, List.getElem?_map]; rw [hc]; rfl
  | succ j => simp at hx
theorem all2_append_cells {S : Nat → Nat → Prop} {w' : World} {ρ' : Ro} {size b k0 : Nat} {xs ys : List AV} {olds news : List Value}
    (hx : ∀ (i : Nat) x, xs[i]? = some x → ∃ vs, All2 (Val w' S ρ' 0) x.cells vs ∧ vs.length = size ∧ ∀ (j : Nat) u, vs[j]? = some u → olds[i * size + j]? = some u)
    (hy : ∀ (i : Nat) y, ys[i]? = some y → ∃ vs, All2 (Val w' S ρ' 0) y.cells vs ∧ vs.length = size ∧ ∀ (j : Nat) u, vs[j]? = some u → news[i * size + j]? = some u)
    (hol : olds.length = xs.length * size) (hr : Reads w' S b k0 (olds ++ news)) :
    ∀ (i : Nat) x, (xs ++ ys)[i]? = some x → ∃ vs, All2 (Val w' S ρ' 0) x.cells vs ∧ vs.length = size ∧ Reads w' S b (k0 + i * size) vs := by
  intro i x hi
  by_cases hlt : i < xs.length
  · rw [List.getElem?_append_left hlt] at hi
    obtain ⟨vs, h1, h2, h3⟩ := hx i x hi
    refine ⟨vs, h1, h2, fun j u hu => ?_⟩
    have h4 := h3 j u hu
    have := hr (i * size + j) u (by rw [List.getElem?_append_left (lt_of_get h4)]; exact h4)
    rwa [← Nat.add_assoc] at this
  · have hge := Nat.le_of_not_lt hlt
    rw [List.getElem?_append_right hge] at hi
    obtain ⟨vs, h1, h2, h3⟩ := hy _ x hi
    refine ⟨vs, h1, h2, fun j u hu => ?_⟩
    have h4 := h3 j u hu
    have hm : xs.length * size + (i - xs.length) * size = i * size := by rw [← Nat.add_mul]; congr 1; omega
    have := hr (i * size + j) u (by
      rw [List.getElem?_append_right (by rw [hol]; omega), hol, show i * size + j - xs.length * size = (i - xs.length) * size + j by omega]; exact h4)
    rwa [← Nat.add_assoc] at this
theorem vals_keep2 {w' : World} {S S' : Nat → Nat → Prop} {ρ' : Ro} {size : Nat} {xs : List AV} {olds : List Value} (hg : FamLe ρ.g ρ'.g)
    (hk : ∀ b o u, S b o → cellAt w b o = some u → S' b o ∧ cellAt w' b o = some u)
    (hx : ∀ (i : Nat) x, xs[i]? = some x → ∃ vs, All2 (Val w S ρ 0) x.cells vs ∧ vs.length = size ∧ ∀ (j : Nat) u, vs[j]? = some u → olds[i * size + j]? = some u) :
    ∀ (i : Nat) x, xs[i]? = some x → ∃ vs, All2 (Val w' S' ρ' 0) x.cells vs ∧ vs.length = size ∧ ∀ (j : Nat) u, vs[j]? = some u → olds[i * size + j]? = some u := by
  intro i x hi
  obtain ⟨vs, h1, h2, h3⟩ := hx i x hi
  exact ⟨vs, h1.imp fun _ _ h => h.keep ⟨hk, Nat.le_refl _, fun i hi => by omega, fun i hi => by omega, hg⟩, h2, h3⟩
theorem val_sl_mk {w' : World} {S : Nat → Nat → Prop} {ρ' : Ro} {n size len cap : Nat} {xs : List AV} {tk : Tok} {ad : Option Addr} (hl : len = xs.length) (hc : len ≤ cap) (ht : tokOk ρ' n size len cap ad tk)
    (h : xs ≠ [] → ∃ b o, ad = some ⟨b, o, none⟩ ∧ ∀ (i : Nat) x, xs[i]? = some x → ∃ vs, All2 (Val w' S ρ' 0) x.cells vs ∧ vs.length = size ∧ Reads w' S b (o + i * size) vs) : Val w' S ρ' n (.sl size xs tk) (.slice ad len cap) := by
  by_cases he : xs = []
  · exact ⟨1, ad, len, cap, rfl, hl, hc, ht, fun h => absurd he h⟩
  · obtain ⟨b, o', e, h⟩ := h he
    obtain ⟨d, hd⟩ := vals_depth2 h
    exact ⟨d + 1, ad, len, cap, rfl, hl, hc, ht, fun _ => ⟨b, o', e, hd⟩⟩
theorem sound_appQ {t u e : TypeId} {size : Nat} {i : TypeInfo} {T : Ty} {d : TypeDesc} {z : Value} (hut : P.underlying t = some (.slice e)) (hty : TyOk P e T i d z) (hsize : size = T.size) (hs : RelS ρ s a w)
    {xs ys : List AV} {v x : Value} {news : List Value} {ty : TypeId} (hv : Val w (Stay ρ s.hp) ρ s.hp.length (.sl size xs .full) v) (ha : Apps P w (Stay ρ s.hp) ρ size u x ys news)
    (hb : (xs.length + ys.length) * T.bytes ≤ 2 ^ 47) (hpos : 0 < T.bytes) :
    ∃ r w', (Builtin.append_ #[t, u] ty #[v, x]).run P w = .ok r w' ∧ Val w' (Stay ρ s.hp) ρ s.hp.length (.sl size (xs ++ ys) .no) r ∧ Stp ρ s.hp w ρ s.hp w' ∧ Rel ρ s.hp w' := by
  obtain ⟨olds, hxs, hrd⟩ := Apps.ofSl (w := w) hut hv
  obtain ⟨ad, len, cap, rfl, hl, hcap, htk, hne⟩ := val_sl hv
  have hsrc := ha.src w (fun _ _ _ _ h => h)
  have hsi : size = i.size := by rw [hsize, hty.size]
  have hbi : T.bytes = i.bytes := hty.bytes
  have hol : olds.length = xs.length * size := (hxs.src w (fun _ _ _ _ h => h)).newsLen
  have hnl : news.length = ys.length * size := hsrc.newsLen
  simp only [tokOk] at htk
  have htk := htk.symm
  subst htk
  by_cases hys : ys = []
  · subst hys
    have hn0 : news = [] := List.eq_nil_of_length_eq_zero (by rw [hnl]; simp)
    subst hn0
    refine ⟨_, w, run_append_nothing w t u ty _ i hut hty.info ad len len hcap x (by rw [← hsi]; exact hsrc), ?_, Stp.refl _ _ _, hs.rel⟩
    rw [List.append_nil]
    exact val_sl_mk hl (Nat.le_refl _) trivial (fun hn => by
      obtain ⟨b, o', e', hg⟩ := hne hn
      exact ⟨b, o', e', hg⟩)
  · have hyl : 0 < ys.length := by cases ys <;> simp_all
    have h1 := (hxs.src w.drew (fun _ _ _ _ h => h)).cells
    rw [← hl] at h1
    have hlen63 : xs.length + ys.length ≤ 2 ^ 47 := Nat.le_trans (Nat.le_mul_of_pos_right _ hpos) hb
    have hrun := run_append_grow_src w t u ty _ i z hut hty.info hty.zero ad len len olds (by rw [← hsi]; exact h1) x ys.length news (by rw [← hsi]; exact hsrc) (by omega) (by omega)
      (growslice_fits (by omega) (by rw [← hbi, hl]; exact hb))
    have hge := grownCap_ge w (len + ys.length) len e
    obtain ⟨c, g, hg, hrun, hcc⟩ : ∃ (c : Array Value) (g : Nat), len + ys.length ≤ g ∧ (Builtin.append_ #[t, u] ty #[.slice ad len len, x]).run P w = .ok (.slice (some ⟨w.heap.size, 0, none⟩) (len + ys.length) g) (w.drew.alloc (.cells c e)) ∧
      ∀ (j : Nat) v, (olds ++ news)[j]? = some v → c[j]? = some v := by
      refine ⟨_, _, hge, hrun, fun j v hj => ?_⟩
      rw [Array.getElem?_append_left (by simpa using lt_of_get hj)]
      simpa using hj
    have hd := rel_drew hs.rel
    have hp := rel_free hd.2 (.cells c e)
    have hst := hd.1.trans' hp.1
    refine ⟨_, _, hrun, ?_, hst, hp.2⟩
    refine val_sl_mk (by simp [hl]) hg trivial (fun _ => ⟨_, _, rfl, ?_⟩)
    refine all2_append_cells (vals_keep2 hst.keeps.g hst.keeps.rd hxs.cells) (vals_keep2 hst.keeps.g hst.keeps.rd ha.cells) hol (fun j v hj => ?_)
    refine ⟨?_, ?_, ?_⟩
    · simpa using new_stay hs.rel j
    · have hh : (w.drew.alloc (.cells c e)).heap[w.heap.size]? = some (.cells c e (0, 0)) := heap_alloc_new (w := w.drew)
      rw [cellAt_cells hh]; simpa using hcc j v hj
    · rcases List.mem_append.1 (List.mem_of_getElem? hj) with hm | hm
      · exact (hxs.src w (fun _ _ _ _ h => h)).one _ hm
      · exact hsrc.one _ hm
theorem sound_app {t u e : TypeId} {size : Nat} {i : TypeInfo} {T : Ty} {d : TypeDesc} {z : Value} (hut : P.underlying t = some (.slice e)) (hty : TyOk P e T i d z) (hsize : size = T.size) (hs : RelS ρ s a w)
    {xs ys : List AV} {tk : Tok} {v x : Value} {news : List Value} {ty : TypeId} (hv : Val w (Stay ρ s.hp) ρ s.hp.length (.sl size xs tk) v) (ha : Apps P w (Stay ρ s.hp) ρ size u x ys news)
    (hb : (xs.length + ys.length) * T.bytes ≤ 2 ^ 47) (hpos : 0 < T.bytes) (h : app (std P n₀) size xs ys tk s.hp K) :
    ∃ r w' ρ' σ' av, (Builtin.append_ #[t, u] ty #[v, x]).run P w = .ok r w' ∧ K av σ' ∧ Val w' (Stay ρ' σ') ρ' σ'.length av r ∧ Stp ρ s.hp w ρ' σ' w' ∧ Rel ρ' σ' w' := by
  obtain ⟨olds, hxs, hrd⟩ := Apps.ofSl (w := w) hut hv
  obtain ⟨ad, len, cap, rfl, hl, hcap, htk, hne⟩ := val_sl hv
  have hsrc := ha.src w (fun _ _ _ _ h => h)
  have hsi : size = i.size := by rw [hsize, hty.size]
  have hbi : T.bytes = i.bytes := hty.bytes
  have hlen63 : xs.length + ys.length ≤ 2 ^ 47 := Nat.le_trans (Nat.le_mul_of_pos_right _ hpos) hb
  have hol : olds.length = xs.length * size := (hxs.src w (fun _ _ _ _ h => h)).newsLen
  have hnl : news.length = ys.length * size := hsrc.newsLen
  have nothing : ys = [] → (Builtin.append_ #[t, u] ty #[.slice ad len cap, x]).run P w = .ok (.slice ad len cap) w := by
    intro e
    subst e
    have : news = [] := List.eq_nil_of_length_eq_zero (by rw [hnl]; simp)
    subst this
    exact run_append_nothing w t u ty _ i hut hty.info ad len cap hcap x (by rw [← hsi]; exact hsrc)
  have grows : cap < len + ys.length → ∃ (c : Array Value) (g : Nat), len + ys.length ≤ g ∧ (Builtin.append_ #[t, u] ty #[.slice ad len cap, x]).run P w = .ok (.slice (some ⟨w.heap.size, 0, none⟩) (len + ys.length) g) (w.drew.alloc (.cells c e)) ∧
      c.size = g * size ∧ ∀ (j : Nat) v, (olds ++ news)[j]? = some v → c[j]? = some v := by
    intro hg
    have h1 := (hxs.src w.drew (fun _ _ _ _ h => h)).cells
    rw [← hl] at h1
    have hrun := run_append_grow_src w t u ty _ i z hut hty.info hty.zero ad len cap olds (by rw [← hsi]; exact h1) x ys.length news (by rw [← hsi]; exact hsrc) hg (by omega)
      (growslice_fits hg (by rw [← hbi, hl]; exact hb))
    have hge := grownCap_ge w (len + ys.length) cap e
    refine ⟨_, _, hge, hrun, ?_, fun j v hj => ?_⟩
    · simp [Builtin.zeroCells, hol, hnl, hty.zsize, ← hsize, ← hl]
      rw [← Nat.add_mul, ← Nat.add_mul]; congr 1; omega
    · rw [Array.getElem?_append_left (by simpa using lt_of_get hj)]
      simpa using hj
  have newTip : ∀ {id pos' : Nat} {σ' : List Ent} {ρ' : Ro} {w' : World} {c : Array Value} {g : Nat}, w'.heap[w.heap.size]? = some (.cells c e (0, 0)) → len + ys.length ≤ g → c.size = g * size → (∀ (j : Nat) v, (olds ++ news)[j]? = some v → c[j]? = some v) →
      Stp ρ s.hp w ρ' σ' w' → id < σ'.length → ρ'.t id = ⟨w.heap.size, (len + ys.length) * size, g * size, pos'⟩ → (∀ j, j < (len + ys.length) * size → Stay ρ' σ' w.heap.size j) →
      Val w' (Stay ρ' σ') ρ' σ'.length (.sl size (xs ++ ys) (.tip id pos')) (.slice (some ⟨w.heap.size, 0, none⟩) (len + ys.length) g) := by
    intro id pos' σ' ρ' w' c g hh hg hcs hcc hst hid hloc hstay
    refine val_sl_mk (by simp [hl]) hg ⟨hid, by rw [hloc]; exact Nat.le_refl _, fun _ => by
      rw [hloc]; refine ⟨?_, fun _ => ⟨0, rfl, by simp⟩⟩; show (len + ys.length) * size + (g - (len + ys.length)) * size = g * size; rw [← Nat.add_mul]; congr 1; omega⟩ (fun _ => ⟨_, _, rfl, ?_⟩)
    refine all2_append_cells (vals_keep2 hst.keeps.g hst.keeps.rd hxs.cells) (vals_keep2 hst.keeps.g hst.keeps.rd ha.cells) hol (fun j v hj => ?_)
    have hlt := lt_of_get hj
    refine ⟨hstay _ ?_, ?_, ?_⟩
    · rw [List.length_append, hol, hnl, ← Nat.add_mul, ← hl] at hlt
      simpa using hlt
    · rw [cellAt_cells hh]; simpa using hcc j v hj
    · rcases List.mem_append.1 (List.mem_of_getElem? hj) with hm | hm
      · exact (hxs.src w (fun _ _ _ _ h => h)).one _ hm
      · exact hsrc.one _ hm
  cases tk with
  | no => exact h.elim
  | full =>
    simp only [tokOk] at htk
    have htk := htk.symm
    subst htk
    simp only [app, lenN_eq, snoc_eq] at h
    replace h : K (.sl size (xs ++ ys) (.tip s.hp.length (xs.length + ys.length))) (s.hp ++ [.tip (xs.length + ys.length)]) := h
    by_cases hys : ys = []
    · have hp := hs.rel.push (ρ' := ρ.tipAt s.hp.length ⟨0, 0, 0, xs.length + ys.length⟩) (w' := w) (e := .tip (xs.length + ys.length)) (fun _ _ => rfl) (fun i hi => by simp [Ro.tipAt]; omega) rfl rfl rfl rfl rfl (fun _ _ h => h) (Nat.le_refl _)
        (fun b o' ho => by simp [OwnE, Ro.tipAt] at ho) (fun _ => by simp [EntOk, Ro.tipAt])
      refine ⟨_, w, _, _, _, nothing hys, h, ?_, hp.1, hp.2⟩
      subst hys
      rw [List.append_nil]
      refine val_sl_mk hl (Nat.le_refl _) ⟨by simp, by simp [Ro.tipAt], fun _ => by simp [Ro.tipAt, hdr]⟩ (fun hn => ?_)
      obtain ⟨b, o', e', hg⟩ := hne hn
      exact ⟨b, o', e', fun i x hi => let ⟨vs, a1, a2, a3⟩ := hg i x hi; ⟨vs, a1.imp fun _ _ h => h.keep hp.1.keeps.zero, a2, a3.keep hp.1.keeps.rd⟩⟩
    · have hyl : 0 < ys.length := by cases ys <;> simp_all
      obtain ⟨c, g, hg, hrun, hcs, hcc⟩ := grows (by omega)
      have hd := rel_drew hs.rel
      have hp := hs.rel.push (ρ' := ρ.tipAt s.hp.length ⟨w.heap.size, (len + ys.length) * size, g * size, xs.length + ys.length⟩) (w' := w.drew.alloc (.cells c e)) (e := .tip (xs.length + ys.length)) (fun _ _ => rfl) (fun i hi => by simp [Ro.tipAt]; omega) rfl rfl rfl rfl rfl
        (fun _ _ h => heap_alloc_old (w := w.drew) h) (by rw [World.size_alloc]; simp) (fun b o' ho => by simp only [OwnE, Ro.tipAt, if_true] at ho; omega)
        (fun _ => ⟨by simp [Ro.tipAt], by simpa [Ro.tipAt] using Nat.mul_le_mul_right size hg, fun _ => ⟨c, e, (0, 0), by simpa [Ro.tipAt] using heap_alloc_new (w := w.drew), by simp [Ro.tipAt, hcs], fun o' _ _ => by simp only [Ro.tipAt, if_true]; exact World.frozen?_alloc_new w.drew c e o'⟩⟩)
      refine ⟨_, _, _, _, _, hrun, h, ?_, hp.1, hp.2⟩
      refine newTip (heap_alloc_new (w := w.drew)) hg hcs hcc hp.1 (by simp) (by simp [Ro.tipAt]) (fun j hj => ⟨?_, (new_stay hs.rel j).2⟩)
      rintro ⟨i', f, hi, ho⟩
      rcases get_push hi with ⟨hlt, hi⟩ | ⟨rfl, rfl⟩
      · have := (OwnE.congr (ρ := ρ) (ρ' := ρ.tipAt s.hp.length ⟨w.heap.size, (len + ys.length) * size, g * size, xs.length + ys.length⟩) rfl (by simp [Ro.tipAt]; omega)).1 ho
        exact (new_stay hs.rel j).1 ⟨i', f, hi, this⟩
      · simp only [OwnE, Ro.tipAt, if_true] at ho; omega
  | tip id pos =>
    simp only [app] at h
    rw [nth_eq] at h
    split at h
    case h_2 => exact h.elim
    rename_i p hid
    replace h : p = pos ∧ K (.sl size (xs ++ ys) (.tip id (pos + ys.length))) (setN s.hp id (.tip (pos + ys.length))) := h
    obtain ⟨rfl, h⟩ := h
    obtain ⟨hidl, _, hhdr⟩ := htk
    obtain ⟨hpos', hle, hblk⟩ := hs.rel.ents id _ hid
    obtain ⟨hh1, hh2⟩ := hhdr hpos'
    by_cases hys : ys = []
    · have hp := rel_tip hs.rel (l := ρ.t id) (p' := p + ys.length) (w' := w) hid (by rw [hpos']; simp [hys]) (.inr ⟨rfl, by simp [hys]⟩) rfl rfl rfl (Nat.le_refl _) (fun b ob hb => ⟨ob, hb, okBlk.refl _ _⟩) hle (fun o' h1 h2 => .inl ⟨rfl, h1, h2⟩) hblk
      refine ⟨_, w, _, _, _, nothing hys, h, ?_, hp.1, hp.2⟩
      subst hys
      rw [List.append_nil]
      refine val_sl_mk hl hcap ⟨by rw [setN_eq]; simpa using hidl, by simp [Ro.tipAt, hpos'], fun _ => by simpa [Ro.tipAt] using ⟨hh1, hh2⟩⟩ (fun hn => ?_)
      obtain ⟨b, o', e', hg⟩ := hne hn
      exact ⟨b, o', e', fun i x hi => let ⟨vs, a1, a2, a3⟩ := hg i x hi; ⟨vs, a1.imp fun _ _ h => h.keep hp.1.keeps.zero, a2, a3.keep hp.1.keeps.rd⟩⟩
    · have hyl : 0 < ys.length := by cases ys <;> simp_all
      by_cases hroom : len + ys.length ≤ cap
      · obtain ⟨o', rfl, ho'⟩ := hh2 (by omega)
        obtain ⟨st, hst0⟩ : ∃ st, st = (ρ.t id).start := ⟨_, rfl⟩
        have hfit : ys.length * size ≤ (cap - len) * size := Nat.mul_le_mul_right size (by omega)
        have hdr2 : st + ys.length * size + (cap - (len + ys.length)) * size = (ρ.t id).stop := by
          rw [← hh1, ← hst0, Nat.add_assoc, ← Nat.add_mul]; congr 2; omega
        by_cases hz : size = 0
        ·
          have hn0 : news = [] := List.eq_nil_of_length_eq_zero (by rw [hnl, hz]; simp)
          subst hn0
          have hrun := run_append_room_src w t u ty _ i hut hty.info (ρ.t id).blk o' len cap x ys.length [] (by rw [← hsi]; exact hsrc) hroom (by simp) (by simp)
          simp only [World.setCells] at hrun
          have hp := rel_tip hs.rel (l := ⟨(ρ.t id).blk, st + ys.length * size, (ρ.t id).stop, p + ys.length⟩) (p' := p + ys.length) (w' := w) hid rfl (.inl (by omega)) rfl rfl rfl (Nat.le_refl _) (fun b ob hb => ⟨ob, hb, okBlk.refl _ _⟩)
            (by simp only; omega) (fun o'' h1 h2 => .inl ⟨rfl, by simp only at h1; omega, h2⟩) (fun hlt => by
              obtain ⟨c, e', f, g1, g2, g3⟩ := hblk (by simp only at hlt; omega)
              exact ⟨c, e', f, g1, g2, fun o'' h1 h2 => g3 o'' (by simp only at h1; omega) h2⟩)
          refine ⟨_, w, _, _, _, hrun, h, ?_, hp.1, hp.2⟩
          refine val_sl_mk (by simp [hl]) hroom ⟨by rw [setN_eq]; simpa using hidl, by simp [Ro.tipAt], fun _ => by
            simp only [Ro.tipAt, if_true, hdr]; refine ⟨by omega, fun _ => ⟨o', rfl, ?_⟩⟩; rw [hst0, ← ho', hz]; simp⟩ (fun _ => ⟨_, _, rfl, ?_⟩)
          refine all2_append_cells (vals_keep2 hp.1.keeps.g hp.1.keeps.rd hxs.cells) (vals_keep2 hp.1.keeps.g hp.1.keeps.rd ha.cells) hol (fun j v hj => ?_)
          have : olds = [] := List.eq_nil_of_length_eq_zero (by rw [hol, hz]; simp)
          subst this
          simp at hj
        · have hspos : 0 < size := Nat.pos_of_ne_zero hz
          have hstlt : (ρ.t id).start < (ρ.t id).stop := by
            rw [← hh1]; have : 0 < (cap - len) * size := Nat.mul_pos (by omega) hspos; omega
          obtain ⟨c, e', f, g1, g2, g3⟩ := hblk hstlt
          have hin : st + news.length ≤ c.size := by rw [hnl]; omega
          have hoff : o' + len * i.size = st := by rw [← hsi, ho', hst0]
          have hrun := run_append_room_src w t u ty _ i hut hty.info (ρ.t id).blk o' len cap x ys.length news (by rw [← hsi]; exact hsrc) hroom
            (fun j hj => by rw [hoff]; have hlt : st + j < c.size := by omega
                            simp [World.cell?, g1, hlt])
            (fun j hj => by rw [hoff]; exact g3 _ (by omega) (by rw [← hh1, ← hst0]; rw [hnl] at hj; omega))
          rw [hoff] at hrun
          obtain ⟨c', k1, k2, k3, k4⟩ := setCells_heap (ρ.t id).blk news st w g1
          obtain ⟨q1, q2, q3, q4⟩ := setCells_same (ρ.t id).blk news st w
          have hp := rel_tip hs.rel (l := ⟨(ρ.t id).blk, st + ys.length * size, (ρ.t id).stop, p + ys.length⟩) (p' := p + ys.length) (w' := w.setCells (ρ.t id).blk st news) hid rfl (.inl (by omega)) q2 q3 q4 (by rw [q1]; exact Nat.le_refl _)
            (fun b ob hb => by
              by_cases hbb : b = (ρ.t id).blk
              · subst hbb
                rw [g1] at hb; simp only [Option.some.injEq] at hb; subst hb
                refine ⟨_, k1, c', rfl, k2, fun o'' ho'' => k3 o'' ?_⟩
                rcases Nat.lt_or_ge o'' st with hlt | hge
                · exact .inl hlt
                · right
                  rcases Nat.lt_or_ge o'' (st + news.length) with hlt' | hge'
                  · exact absurd ⟨rfl, by omega, by rw [← hh1, ← hst0]; rw [hnl] at hlt'; omega⟩ ho''
                  · exact hge'
              · exact ⟨ob, by rw [setCells_other _ _ _ _ _ hbb]; exact hb, okBlk.refl _ _⟩)
            (by simp only; omega) (fun o'' h1 h2 => .inl ⟨rfl, by simp only at h1; omega, h2⟩)
            (fun hlt => ⟨c', e', f, k1, by simp only; omega, fun o'' h1 h2 => by rw [World.frozen?_setCells]; exact g3 o'' (by simp only at h1; omega) h2⟩)
          refine ⟨_, _, _, _, _, hrun, h, ?_, hp.1, hp.2⟩
          refine val_sl_mk (by simp [hl]) hroom ⟨by rw [setN_eq]; simpa using hidl, by simp [Ro.tipAt], fun _ => by
            simp only [Ro.tipAt, if_true, hdr]; refine ⟨by omega, fun _ => ⟨o', rfl, ?_⟩⟩; rw [hst0, ← ho', Nat.add_assoc, Nat.add_mul]⟩ (fun _ => ⟨_, _, rfl, ?_⟩)
          refine all2_append_cells (vals_keep2 hp.1.keeps.g hp.1.keeps.rd hxs.cells) (vals_keep2 hp.1.keeps.g hp.1.keeps.rd ha.cells) hol (fun j v hj => ?_)
          by_cases hjo : j < olds.length
          · rw [List.getElem?_append_left hjo] at hj
            have h1 := hrd _ _ _ _ rfl j v hj
            exact ⟨(hp.1.keeps.rd _ _ _ h1.1 h1.2.1).1, (hp.1.keeps.rd _ _ _ h1.1 h1.2.1).2, h1.2.2⟩
          · have hge := Nat.le_of_not_lt hjo
            rw [List.getElem?_append_right hge] at hj
            have hjl := lt_of_get hj
            have hadr : o' + j = st + (j - olds.length) := by rw [hst0, ← ho', hl, ← hol]; omega
            rw [hadr]
            refine ⟨⟨?_, ?_⟩, ?_, hsrc.one _ (List.mem_of_getElem? hj)⟩
            · intro hown
              rcases (own_tipAt hid _ _).1 hown with ⟨_, h1, h2⟩ | ⟨i'', f', hne', hi', ho'⟩
              · simp only at h1; rw [← hnl] at h1; omega
              · exact hne' (hs.rel.disj i'' id f' _ (ρ.t id).blk (st + (j - olds.length)) hi' hid ho' ⟨rfl, by omega, by rw [← hh1, ← hst0]; rw [hnl] at hjl; omega⟩)
            · exact hs.rel.xown _ _ ⟨id, _, hid, rfl, by omega, by rw [← hh1, ← hst0]; rw [hnl] at hjl; omega⟩
            · rw [cellAt_cells k1]; exact k4 hin _ _ hj
      · obtain ⟨c, g, hg, hrun, hcs, hcc⟩ := grows (by omega)
        have hp := rel_tip hs.rel (l := ⟨w.heap.size, (len + ys.length) * size, g * size, p + ys.length⟩) (p' := p + ys.length) (w' := w.drew.alloc (.cells c e)) hid rfl (.inl (by omega)) rfl rfl rfl (by rw [World.size_alloc]; simp)
          (fun b ob hb => ⟨ob, heap_alloc_old (w := w.drew) hb, okBlk.refl _ _⟩) (Nat.mul_le_mul_right size hg) (fun _ _ _ => .inr (Nat.le_refl _))
          (fun _ => ⟨c, e, (0, 0), heap_alloc_new (w := w.drew), by simp [hcs], fun o' _ _ => World.frozen?_alloc_new w.drew c e o'⟩)
        refine ⟨_, _, _, _, _, hrun, h, ?_, hp.1, hp.2⟩
        refine newTip (heap_alloc_new (w := w.drew)) hg hcs hcc hp.1 (by rw [setN_eq]; simpa using hidl) (by simp [Ro.tipAt]) (fun j hj => ⟨?_, (new_stay hs.rel j).2⟩)
        rintro ⟨i', f, hi, ho⟩
        rcases (own_tipAt hid _ _).1 ⟨i', f, hi, ho⟩ with ⟨_, h1, h2⟩ | ⟨i'', f', _, hi', ho'⟩
        · simp only at h1; omega
        · exact (new_stay hs.rel j).1 ⟨i'', f', hi', ho'⟩
end
end Go.Pt
