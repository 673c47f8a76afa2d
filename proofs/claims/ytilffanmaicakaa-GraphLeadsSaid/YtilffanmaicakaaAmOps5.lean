/- Each operation that the abstract machine does is one that the model does: append, the other builtins, calls. -/
import Derived.Test.YtilffanmaicakaaAmOps4
import Derived.Deep.AppendSrc
import Derived.Deep.Upon
namespace Go.Pt
open Go

section
variable {P : Program} {n₀ : Nat} {tab : Nat → Ty} {w : World} {ρ : Ro} {s : St} {a : Act} {o : Oper} {K E : AV → List Ent → Prop} {next : Act → World → Prop} {Q : Exit → Act → World → Prop}

theorem own_tipAt {σ : List Ent} {id p p' : Nat} {l : Loc} (hid : σ[id]? = some (.tip p)) (b o' : Nat) :
    Own (ρ.tipAt id l) (setN σ id (.tip p')) b o' ↔ (l.blk = b ∧ l.start ≤ o' ∧ o' < l.stop) ∨ ∃ i e, i ≠ id ∧ σ[i]? = some e ∧ OwnE ρ i b o' e := by
  constructor
  · rintro ⟨i, e, hi, ho⟩
    rcases get_set hi with ⟨rfl, rfl⟩ | ⟨hne, hi⟩
    · left; simpa [OwnE, Ro.tipAt] using ho
    · right; refine ⟨i, e, hne, hi, ?_⟩
      cases e <;> first | (simp [OwnE, Ro.tipAt, hne] at ho; done) | simpa [OwnE, Ro.tipAt, hne] using ho
  · rintro (h | ⟨i, e, hne, hi, ho⟩)
    · exact ⟨id, .tip p', by rw [setN_eq]; simp [lt_of_get hid], by simpa [OwnE, Ro.tipAt] using h⟩
    · refine ⟨i, e, by rw [setN_eq, List.getElem?_set]; simp [Ne.symm hne, hi], ?_⟩
      cases e <;> first | (simp [OwnE] at ho; done) | simpa [OwnE, Ro.tipAt, hne] using ho

/-- The tip 'id' moves on: over what it owned, or into a new block. -/
theorem rel_tip (h : Rel ρ s.hp w) {id p p' : Nat} {l : Loc} {w' : World} (hid : s.hp[id]? = some (.tip p)) (hlp : l.pos = p') (hp : p < p' ∨ l = ρ.t id ∧ p = p')
    (hos : w'.os = w.os) (htape : w'.tape = w.tape) (hout : w'.output = w.output) (hsz : w.heap.size ≤ w'.heap.size)
    (hfrm : ∀ (b : Nat) ob, w.heap[b]? = some ob → ∃ ob', w'.heap[b]? = some ob' ∧ okBlk (fun o' => (ρ.t id).blk = b ∧ (ρ.t id).start ≤ o' ∧ o' < (ρ.t id).stop) ob ob')
    (hl : l.start ≤ l.stop) (hown : ∀ o', l.start ≤ o' → o' < l.stop → (l.blk = (ρ.t id).blk ∧ (ρ.t id).start ≤ o' ∧ o' < (ρ.t id).stop) ∨ w.heap.size ≤ l.blk)
    (hok : l.start < l.stop → ∃ c e f, w'.heap[l.blk]? = some (.cells c e f) ∧ l.stop ≤ c.size ∧ ∀ o', l.start ≤ o' → o' < l.stop → w'.frozen? ⟨l.blk, o', none⟩ = false) :
    Stp ρ s.hp w (ρ.tipAt id l) (setN s.hp id (.tip p')) w' ∧ Rel (ρ.tipAt id l) (setN s.hp id (.tip p')) w' := by
  have hidl := lt_of_get hid
  have hlen : (setN s.hp id (.tip p')).length = s.hp.length := by rw [setN_eq]; simp
  obtain ⟨hpos, _, _⟩ := h.ents id _ hid
  have mine : ∀ b o', ((ρ.t id).blk = b ∧ (ρ.t id).start ≤ o' ∧ o' < (ρ.t id).stop) → Own ρ s.hp b o' := fun b o' ho => ⟨id, _, hid, ho⟩
  have hlt : ∀ i f b o', s.hp[i]? = some f → OwnE ρ i b o' f → b < w.heap.size := by
    intro i f b o' hi hf
    have hk := h.ents i f hi
    cases f with
    | var cs => obtain ⟨vs, e, _, h2⟩ := hk; simp only [OwnE] at hf; subst hf; exact lt_of_heap h2
    | mp es => obtain ⟨ms, c, h1, _⟩ := hk; simp only [OwnE] at hf; subst hf; exact lt_of_heap h1
    | lp ps asg body env k st pe => obtain ⟨r, h1, _⟩ := hk; simp only [OwnE] at hf; subst hf; exact lt_of_heap h1
    | tip pos => obtain ⟨_, _, h3⟩ := hk; obtain ⟨rfl, h4, h5⟩ := hf; obtain ⟨c, e, f, g1, _⟩ := h3 (by omega); exact lt_of_heap g1
    | vec s xs => obtain ⟨_, _, h3, _⟩ := hk; obtain ⟨rfl, h4, h5⟩ := hf; obtain ⟨c, e, f, g1, _⟩ := h3 (by omega); exact lt_of_heap g1
    | dead => exact hf.elim
  have hst : Stp ρ s.hp w (ρ.tipAt id l) (setN s.hp id (.tip p')) w' := by
    refine ⟨hos, htape, hout, hsz, fun b ob hb => ?_, fun b o' hb ho => ?_, by omega, fun _ _ => rfl, fun i hi => ?_, rfl, rfl⟩
    · obtain ⟨ob', h1, h2⟩ := hfrm b ob hb
      exact ⟨ob', h1, (okBlk.refl (Own ρ s.hp b) ob).trans h2 (fun o' ho => mine b o' ho)⟩
    · rcases (own_tipAt hid b o').1 ho with ⟨rfl, h1, h2⟩ | ⟨i, e, hne, hi, ho⟩
      · rcases hown o' h1 h2 with ⟨e, h3, h4⟩ | h3
        · rw [e]; exact mine _ _ ⟨rfl, h3, h4⟩
        · omega
      · exact ⟨i, e, hi, ho⟩
    · by_cases e : i = id
      · subst e
        simp only [Ro.tipAt, if_true]
        rcases hp with hp | ⟨hp, _⟩
        · right; omega
        · left; exact hp
      · left; simp [Ro.tipAt, e]
  refine ⟨hst, fun i e hi => ?_, fun i j e f b o' hi hj he hf => ?_, fun b o' ho => by have := h.xlt b o' ho; omega, fun b o' ho hx => h.xown b o' (hst.own b o' (h.xlt b o' hx) ho) hx⟩
  · rcases get_set hi with ⟨rfl, rfl⟩ | ⟨hne, hi⟩
    · refine ⟨by simp [Ro.tipAt, hlp], by simpa [Ro.tipAt] using hl, ?_⟩
      simpa [Ro.tipAt] using hok
    · refine (h.ents i e hi).keep hst.keeps (lt_of_get hi) (by simp [Ro.tipAt, hne]) (fun hk => ?_) (fun hp hlt' c e' f hc => ?_)
      · have hex : ∃ ob, w.heap[ρ.b i]? = some ob ∧ ∀ o', OwnE ρ i (ρ.b i) o' e := by
          have := h.ents i e hi
          cases e with
          | var cs => obtain ⟨vs, e, _, h2⟩ := this; exact ⟨_, h2, fun _ => rfl⟩
          | mp es => obtain ⟨ms, c, h1, _⟩ := this; exact ⟨_, h1, fun _ => rfl⟩
          | lp ps asg body env k st pe => obtain ⟨r, h1, _⟩ := this; exact ⟨_, h1, fun _ => rfl⟩
          | _ => simp [Ent.blk] at hk
        obtain ⟨ob, hob, hall⟩ := hex
        obtain ⟨ob', h1, h2⟩ := hfrm _ _ hob
        have hno : ∀ o', ¬ ((ρ.t id).blk = ρ.b i ∧ (ρ.t id).start ≤ o' ∧ o' < (ρ.t id).stop) := fun o' ho => hne (h.disj i id e _ (ρ.b i) o' hi hid (hall o') ho)
        rw [h1, hob]
        cases ob with
        | cells c e' f =>
          obtain ⟨c', rfl, h3, h4⟩ := h2
          congr 2
          apply Array.ext_getElem?
          intro j; exact h4 j (hno j)
        | loop r =>
          obtain ⟨r', rfl, _, h4⟩ := h2
          rcases h4 with h4 | h4
          · exact absurd h4 (hno 0)
          · rw [h4]
        | _ => rcases h2 with h2 | h2
               · exact absurd h2 (hno 0)
               · rw [h2]
      · obtain ⟨ob', h1, c', rfl, h3, h4⟩ := hfrm _ _ hc
        refine ⟨c', h1, h3, fun o' g1 g2 => h4 o' fun ho => hne (h.disj i id e _ (ρ.t i).blk o' hi hid ?_ ho)⟩
        cases e <;> first | (simp [Ent.row] at hp; done) | exact ⟨rfl, g1, g2⟩
  · have split : ∀ i e, (setN s.hp id (.tip p'))[i]? = some e → OwnE (ρ.tipAt id l) i b o' e → (i = id ∧ l.blk = b ∧ l.start ≤ o' ∧ o' < l.stop) ∨ (i ≠ id ∧ s.hp[i]? = some e ∧ OwnE ρ i b o' e) := by
      intro i e hi he
      rcases get_set hi with ⟨rfl, rfl⟩ | ⟨hne, hi⟩
      · left; exact ⟨rfl, by simpa [OwnE, Ro.tipAt] using he⟩
      · right; refine ⟨hne, hi, ?_⟩
        cases e <;> first | (simp [OwnE, Ro.tipAt, hne] at he; done) | simpa [OwnE, Ro.tipAt, hne] using he
    have clash : ∀ i e, i ≠ id → s.hp[i]? = some e → OwnE ρ i b o' e → l.blk = b → l.start ≤ o' → o' < l.stop → False := by
      intro i e hne hi he hb h1 h2
      rcases hown o' h1 h2 with ⟨e1, h3, h4⟩ | h3
      · exact hne (h.disj i id e _ b o' hi hid he ⟨by rw [← hb, e1], h3, h4⟩)
      · have := hlt i e b o' hi he; omega
    rcases split i e hi he with ⟨rfl, h1, h2, h3⟩ | ⟨hne, hi', he'⟩ <;> rcases split j f hj hf with ⟨rfl, k1, k2, k3⟩ | ⟨hne', hj', hf'⟩
    · rfl
    · exact (clash j f hne' hj' hf' h1 h2 h3).elim
    · exact (clash i e hne hi' he' k1 k2 k3).elim
    · exact h.disj i j e f b o' hi' hj' he' hf'

/-- What is appended: a slice's elements, or a string's bytes. -/
structure Apps (P : Program) (w : World) (S : Nat → Nat → Prop) (ρ : Ro) (size : Nat) (tx : TypeId) (x : Value) (ys : List AV) (news : List Value) : Prop where
  src : ∀ w' : World, (∀ b o u, S b o → cellAt w b o = some u → cellAt w' b o = some u) → Src P size tx x ys.length news w'
  cells : ∀ (i : Nat) y, ys[i]? = some y → ∃ vs, All2 (Val w S ρ 0) y.cells vs ∧ vs.length = size ∧ ∀ (j : Nat) u, vs[j]? = some u → news[i * size + j]? = some u

theorem flat_cells {S : Nat → Nat → Prop} {size b k0 : Nat} : ∀ {xs : List AV}, (∀ (i : Nat) x, xs[i]? = some x → ∃ us, All2 (Val w S ρ 0) x.cells us ∧ us.length = size ∧ Reads w S b (k0 + i * size) us) →
    ∃ all : List Value, all.length = xs.length * size ∧ Reads w S b k0 all ∧ ∀ (i : Nat) x, xs[i]? = some x → ∃ us, All2 (Val w S ρ 0) x.cells us ∧ us.length = size ∧ ∀ (j : Nat) u, us[j]? = some u → all[i * size + j]? = some u := by
  intro xs
  induction xs generalizing k0 with
  | nil => intro _; exact ⟨[], by simp, fun j u hu => by simp at hu, fun i x h => by simp at h⟩
  | cons x xs ih =>
    intro h
    obtain ⟨all, h1, h2, h3⟩ := ih (k0 := k0 + size) (fun i y hy => by
      have := h (i + 1) y (by simpa using hy)
      rwa [Nat.succ_mul, Nat.add_comm (i * size) size, ← Nat.add_assoc] at this)
    obtain ⟨us, g1, g2, g3⟩ := h 0 x rfl
    refine ⟨us ++ all, by simp [h1, g2, Nat.succ_mul, Nat.add_comm], fun j u hu => ?_, fun i y hy => ?_⟩
    · by_cases hj : j < us.length
      · rw [List.getElem?_append_left hj] at hu
        have := g3 j u hu
        simpa using this
      · rw [List.getElem?_append_right (Nat.le_of_not_lt hj)] at hu
        have := h2 _ u hu
        rwa [g2, show k0 + size + (j - size) = k0 + j by omega] at this
    · cases i with
      | zero =>
        simp at hy; subst hy
        exact ⟨us, g1, g2, fun j u hu => by rw [Nat.zero_mul, Nat.zero_add, List.getElem?_append_left (lt_of_get hu)]; exact hu⟩
      | succ i =>
        obtain ⟨vs, k1, k2, k3⟩ := h3 i y (by simpa using hy)
        refine ⟨vs, k1, k2, fun j u hu => ?_⟩
        rw [Nat.succ_mul, Nat.add_comm (i * size) size, Nat.add_assoc, List.getElem?_append_right (by omega), g2, show size + (i * size + j) - size = i * size + j by omega]
        exact k3 j u hu

theorem und_slice (ht : TabOk P tab) {u e' : TypeId} (hu : (tab u).k = .slice e') : P.underlying u = some (.slice e') := by
  obtain ⟨i, d, z, hty⟩ := ht.kind hu (by simp)
  have hd : d = .slice e' := by have := hty.k; rw [hu] at this; cases d <;> simp [tkOf] at this; rw [this]
  rw [← hd]; exact hty.und

theorem Apps.ofSl {u e' : TypeId} (hu : P.underlying u = some (.slice e')) {S : Nat → Nat → Prop} {n size : Nat} {ys : List AV} {tk : Tok} {v : Value} (h : Val w S ρ n (.sl size ys tk) v) :
    ∃ news, Apps P w S ρ size u v ys news ∧ ∀ b o l c, v = .slice (some ⟨b, o, none⟩) l c → Reads w S b o news := by
  obtain ⟨ad, len, cap, rfl, hl, _, _, hne⟩ := val_sl h
  by_cases he : ys = []
  · subst he
    simp only [List.length_nil] at hl
    subst hl
    cases ad with
    | none => exact ⟨[], ⟨fun w' _ => by simpa using Src.ofNil w' hu cap, fun i y h => by simp at h⟩, fun _ _ _ _ _ j u h => by simp at h⟩
    | some ad => exact ⟨[], ⟨fun w' _ => by simpa using Src.ofSlice w' hu ad 0 cap [] (by simp) (by simp) (by simp), fun i y h => by simp at h⟩, fun _ _ _ _ _ j u h => by simp at h⟩
  · obtain ⟨b, o', rfl, hget⟩ := hne he
    obtain ⟨all, h1, h2, h3⟩ := flat_cells hget
    refine ⟨all, ⟨fun w' hw => ?_, h3⟩, fun b' o'' l c e => by
      simp only [Value.slice.injEq, Option.some.injEq, Addr.mk.injEq, and_true] at e
      obtain ⟨⟨rfl, rfl⟩, _⟩ := e; exact h2⟩
    rw [hl]
    refine Src.ofSlice w' hu _ _ cap all h1 (fun j x hx => ?_) (fun x hx => ?_)
    · have := hw _ _ _ (h2 j x hx).1 (h2 j x hx).2.1
      simp only [cellAt] at this
      unfold Addr.add
      split
      · rename_i e; subst e; simpa using this
      · exact this
    · obtain ⟨j, hj⟩ := List.mem_iff_getElem?.1 hx
      exact (h2 j x hj).2.2

theorem Apps.ofNils {u e' : TypeId} (hu : P.underlying u = some (.slice e')) {S : Nat → Nat → Prop} {size : Nat} : Apps P w S ρ size u (.slice none 0 0) [] [] :=
  ⟨fun w' _ => by simpa using Src.ofNil w' hu 0, fun i y h => by simp at h⟩

theorem Apps.ofStr (ht : TabOk P tab) {u : TypeId} (hu : (tab u).k = .str) {S : Nat → Nat → Prop} (b : ByteArray) : Apps P w S ρ 1 u (.string b) (bytesOf b) (byteCells b) := by
  obtain ⟨i, d, z, hty⟩ := ht.kind hu (by simp)
  have hd : d = .string := by have := hty.k; rw [hu] at this; cases d <;> simp [tkOf] at this; rfl
  subst hd
  have hl : (bytesOf b).length = b.size := by simp [bytesOf]
  refine ⟨fun w' _ => by rw [hl]; exact Src.ofString w' hty.und b, fun i y hy => ?_⟩
  simp only [bytesOf, List.getElem?_map, Option.map_eq_some_iff] at hy
  obtain ⟨c, hc, rfl⟩ := hy
  refine ⟨[.int .u8 c.toNat], ⟨⟨1, rfl⟩, trivial⟩, rfl, fun j x hx => ?_⟩
  cases j with
  | zero => simp at hx; subst hx; simp only [byteCells, Nat.mul_one, Nat.add_zero, List.getElem?_map]; rw [hc]; rfl
  | succ j => simp at hx

theorem all2_append_cells {S : Nat → Nat → Prop} {w' : World} {ρ' : Ro} {size b k0 : Nat} {xs ys : List AV} {olds news : List Value}
    (hx : ∀ (i : Nat) x, xs[i]? = some x → ∃ vs, All2 (Val w' S ρ' 0) x.cells vs ∧ vs.length = size ∧ ∀ (j : Nat) u, vs[j]? = some u → olds[i * size + j]? = some u)
    (hy : ∀ (i : Nat) y, ys[i]? = some y → ∃ vs, All2 (Val w' S ρ' 0) y.cells vs ∧ vs.length = size ∧ ∀ (j : Nat) u, vs[j]? = some u → news[i * size + j]? = some u)
    (hol : olds.length = xs.length * size) (hr : Reads w' S b k0 (olds ++ news)) :
    ∀ (i : Nat) x, (xs ++ ys)[i]? = some x → ∃ vs, All2 (Val w' S ρ' 0) x.cells vs ∧ vs.length = size ∧ Reads w' S b (k0 + i * size) vs := by
  intro i x hi
  by_cases hlt : i < xs.length
  · rw [List.getElem?_append_left hlt] at hi
    obtain ⟨vs, h1, h2, h3⟩ := hx i x hi
    refine ⟨vs, h1, h2, fun j u hu => ?_⟩
    have h4 := h3 j u hu
    have := hr (i * size + j) u (by rw [List.getElem?_append_left (lt_of_get h4)]; exact h4)
    rwa [← Nat.add_assoc] at this
  · have hge := Nat.le_of_not_lt hlt
    rw [List.getElem?_append_right hge] at hi
    obtain ⟨vs, h1, h2, h3⟩ := hy _ x hi
    refine ⟨vs, h1, h2, fun j u hu => ?_⟩
    have h4 := h3 j u hu
    have hm : xs.length * size + (i - xs.length) * size = i * size := by rw [← Nat.add_mul]; congr 1; omega
    have := hr (i * size + j) u (by
      rw [List.getElem?_append_right (by rw [hol]; omega), hol, show i * size + j - xs.length * size = (i - xs.length) * size + j by omega]; exact h4)
    rwa [← Nat.add_assoc] at this

theorem vals_keep2 {w' : World} {S S' : Nat → Nat → Prop} {ρ' : Ro} {size : Nat} {xs : List AV} {olds : List Value}
    (hk : ∀ b o u, S b o → cellAt w b o = some u → S' b o ∧ cellAt w' b o = some u)
    (hx : ∀ (i : Nat) x, xs[i]? = some x → ∃ vs, All2 (Val w S ρ 0) x.cells vs ∧ vs.length = size ∧ ∀ (j : Nat) u, vs[j]? = some u → olds[i * size + j]? = some u) :
    ∀ (i : Nat) x, xs[i]? = some x → ∃ vs, All2 (Val w' S' ρ' 0) x.cells vs ∧ vs.length = size ∧ ∀ (j : Nat) u, vs[j]? = some u → olds[i * size + j]? = some u := by
  intro i x hi
  obtain ⟨vs, h1, h2, h3⟩ := hx i x hi
  exact ⟨vs, h1.imp fun _ _ h => h.keep ⟨hk, Nat.le_refl _, fun i hi => by omega, fun i hi => by omega⟩, h2, h3⟩

/-- A slice whose elements lie so. -/
theorem val_sl_mk {w' : World} {S : Nat → Nat → Prop} {ρ' : Ro} {n size len cap : Nat} {xs : List AV} {tk : Tok} {ad : Option Addr} (hl : len = xs.length) (hc : len ≤ cap) (ht : tokOk ρ' n size len cap ad tk)
    (h : xs ≠ [] → ∃ b o, ad = some ⟨b, o, none⟩ ∧ ∀ (i : Nat) x, xs[i]? = some x → ∃ vs, All2 (Val w' S ρ' 0) x.cells vs ∧ vs.length = size ∧ Reads w' S b (o + i * size) vs) : Val w' S ρ' n (.sl size xs tk) (.slice ad len cap) := by
  by_cases he : xs = []
  · exact ⟨1, ad, len, cap, rfl, hl, hc, ht, fun h => absurd he h⟩
  · obtain ⟨b, o', e, h⟩ := h he
    obtain ⟨d, hd⟩ := vals_depth2 h
    exact ⟨d + 1, ad, len, cap, rfl, hl, hc, ht, fun _ => ⟨b, o', e, hd⟩⟩

/-- The slice that an append to xs gives. -/
theorem sound_app {t u e : TypeId} {size : Nat} {i : TypeInfo} {T : Ty} {d : TypeDesc} {z : Value} (hut : P.underlying t = some (.slice e)) (hty : TyOk P e T i d z) (hsize : size = T.size) (hs : RelS ρ s a w)
    {xs ys : List AV} {tk : Tok} {v x : Value} {news : List Value} {ty : TypeId} (hv : Val w (Stay ρ s.hp) ρ s.hp.length (.sl size xs tk) v) (ha : Apps P w (Stay ρ s.hp) ρ size u x ys news)
    (hb : (xs.length + ys.length) * T.bytes ≤ 2 ^ 47) (hpos : 0 < T.bytes) (h : app (std P n₀) size xs ys tk s.hp K) :
    ∃ r w' ρ' σ' av, (Builtin.append_ #[t, u] ty #[v, x]).run P w = .ok r w' ∧ K av σ' ∧ Val w' (Stay ρ' σ') ρ' σ'.length av r ∧ Stp ρ s.hp w ρ' σ' w' ∧ Rel ρ' σ' w' := by
  obtain ⟨olds, hxs, hrd⟩ := Apps.ofSl (w := w) hut hv
  obtain ⟨ad, len, cap, rfl, hl, hcap, htk, hne⟩ := val_sl hv
  have hsrc := ha.src w (fun _ _ _ _ h => h)
  have hsi : size = i.size := by rw [hsize, hty.size]
  have hbi : T.bytes = i.bytes := hty.bytes
  have hlen63 : xs.length + ys.length ≤ 2 ^ 47 := Nat.le_trans (Nat.le_mul_of_pos_right _ hpos) hb
  have hol : olds.length = xs.length * size := (hxs.src w (fun _ _ _ _ h => h)).newsLen
  have hnl : news.length = ys.length * size := hsrc.newsLen
  -- nothing is appended
  have nothing : ys = [] → (Builtin.append_ #[t, u] ty #[.slice ad len cap, x]).run P w = .ok (.slice ad len cap) w := by
    intro e
    subst e
    have : news = [] := List.eq_nil_of_length_eq_zero (by rw [hnl]; simp)
    subst this
    exact run_append_nothing w t u ty _ i hut hty.info ad len cap hcap x (by rw [← hsi]; exact hsrc)
  -- a new row
  have grows : cap < len + ys.length → ∃ (c : Array Value) (g : Nat), len + ys.length ≤ g ∧ (Builtin.append_ #[t, u] ty #[.slice ad len cap, x]).run P w = .ok (.slice (some ⟨w.heap.size, 0, none⟩) (len + ys.length) g) (w.drew.alloc (.cells c e)) ∧
      c.size = g * size ∧ ∀ (j : Nat) v, (olds ++ news)[j]? = some v → c[j]? = some v := by
    intro hg
    have h1 := (hxs.src w.drew (fun _ _ _ _ h => h)).cells
    rw [← hl] at h1
    have hrun := run_append_grow_src w t u ty _ i z hut hty.info hty.zero ad len cap olds (by rw [← hsi]; exact h1) x ys.length news (by rw [← hsi]; exact hsrc) hg (by omega)
      (growslice_fits hg (by rw [← hbi, hl]; exact hb))
    have hge := grownCap_ge w (len + ys.length) cap e
    refine ⟨_, _, hge, hrun, ?_, fun j v hj => ?_⟩
    · simp [Builtin.zeroCells, hol, hnl, hty.zsize, ← hsize, ← hl]
      rw [← Nat.add_mul, ← Nat.add_mul]; congr 1; omega
    · rw [Array.getElem?_append_left (by simpa using lt_of_get hj)]
      simpa using hj
  have newTip : ∀ {id pos' : Nat} {σ' : List Ent} {ρ' : Ro} {w' : World} {c : Array Value} {g : Nat}, w'.heap[w.heap.size]? = some (.cells c e (0, 0)) → len + ys.length ≤ g → c.size = g * size → (∀ (j : Nat) v, (olds ++ news)[j]? = some v → c[j]? = some v) →
      Stp ρ s.hp w ρ' σ' w' → id < σ'.length → ρ'.t id = ⟨w.heap.size, (len + ys.length) * size, g * size, pos'⟩ → (∀ j, j < (len + ys.length) * size → Stay ρ' σ' w.heap.size j) →
      Val w' (Stay ρ' σ') ρ' σ'.length (.sl size (xs ++ ys) (.tip id pos')) (.slice (some ⟨w.heap.size, 0, none⟩) (len + ys.length) g) := by
    intro id pos' σ' ρ' w' c g hh hg hcs hcc hst hid hloc hstay
    refine val_sl_mk (by simp [hl]) hg ⟨hid, by rw [hloc]; exact Nat.le_refl _, fun _ => by
      rw [hloc]; refine ⟨?_, fun _ => ⟨0, rfl, by simp⟩⟩; show (len + ys.length) * size + (g - (len + ys.length)) * size = g * size; rw [← Nat.add_mul]; congr 1; omega⟩ (fun _ => ⟨_, _, rfl, ?_⟩)
    refine all2_append_cells (vals_keep2 hst.keeps.rd hxs.cells) (vals_keep2 hst.keeps.rd ha.cells) hol (fun j v hj => ?_)
    have hlt := lt_of_get hj
    refine ⟨hstay _ ?_, ?_, ?_⟩
    · rw [List.length_append, hol, hnl, ← Nat.add_mul, ← hl] at hlt
      simpa using hlt
    · rw [cellAt_cells hh]; simpa using hcc j v hj
    · rcases List.mem_append.1 (List.mem_of_getElem? hj) with hm | hm
      · exact (hxs.src w (fun _ _ _ _ h => h)).one _ hm
      · exact hsrc.one _ hm
  cases tk with
  | no => exact h.elim
  | full =>
    simp only [tokOk] at htk
    have htk := htk.symm
    subst htk
    simp only [app, lenN_eq, snoc_eq] at h
    replace h : K (.sl size (xs ++ ys) (.tip s.hp.length (xs.length + ys.length))) (s.hp ++ [.tip (xs.length + ys.length)]) := h
    by_cases hys : ys = []
    · have hp := hs.rel.push (ρ' := ρ.tipAt s.hp.length ⟨0, 0, 0, xs.length + ys.length⟩) (w' := w) (e := .tip (xs.length + ys.length)) (fun _ _ => rfl) (fun i hi => by simp [Ro.tipAt]; omega) rfl rfl rfl rfl rfl (fun _ _ h => h) (Nat.le_refl _)
        (fun b o' ho => by simp [OwnE, Ro.tipAt] at ho) (fun _ => by simp [EntOk, Ro.tipAt])
      refine ⟨_, w, _, _, _, nothing hys, h, ?_, hp.1, hp.2⟩
      subst hys
      rw [List.append_nil]
      refine val_sl_mk hl (Nat.le_refl _) ⟨by simp, by simp [Ro.tipAt], fun _ => by simp [Ro.tipAt, hdr]⟩ (fun hn => ?_)
      obtain ⟨b, o', e', hg⟩ := hne hn
      exact ⟨b, o', e', fun i x hi => let ⟨vs, a1, a2, a3⟩ := hg i x hi; ⟨vs, a1.imp fun _ _ h => h.keep hp.1.keeps.zero, a2, a3.keep hp.1.keeps.rd⟩⟩
    · have hyl : 0 < ys.length := by cases ys <;> simp_all
      obtain ⟨c, g, hg, hrun, hcs, hcc⟩ := grows (by omega)
      have hd := rel_drew hs.rel
      have hp := hs.rel.push (ρ' := ρ.tipAt s.hp.length ⟨w.heap.size, (len + ys.length) * size, g * size, xs.length + ys.length⟩) (w' := w.drew.alloc (.cells c e)) (e := .tip (xs.length + ys.length)) (fun _ _ => rfl) (fun i hi => by simp [Ro.tipAt]; omega) rfl rfl rfl rfl rfl
        (fun _ _ h => heap_alloc_old (w := w.drew) h) (by rw [World.size_alloc]; simp) (fun b o' ho => by simp only [OwnE, Ro.tipAt, if_true] at ho; omega)
        (fun _ => ⟨by simp [Ro.tipAt], by simpa [Ro.tipAt] using Nat.mul_le_mul_right size hg, fun _ => ⟨c, e, (0, 0), by simpa [Ro.tipAt] using heap_alloc_new (w := w.drew), by simp [Ro.tipAt, hcs], fun o' _ _ => by simp only [Ro.tipAt, if_true]; exact World.frozen?_alloc_new w.drew c e o'⟩⟩)
      refine ⟨_, _, _, _, _, hrun, h, ?_, hp.1, hp.2⟩
      refine newTip (heap_alloc_new (w := w.drew)) hg hcs hcc hp.1 (by simp) (by simp [Ro.tipAt]) (fun j hj => ⟨?_, (new_stay hs.rel j).2⟩)
      rintro ⟨i', f, hi, ho⟩
      rcases get_push hi with ⟨hlt, hi⟩ | ⟨rfl, rfl⟩
      · have := (OwnE.congr (ρ := ρ) (ρ' := ρ.tipAt s.hp.length ⟨w.heap.size, (len + ys.length) * size, g * size, xs.length + ys.length⟩) rfl (by simp [Ro.tipAt]; omega)).1 ho
        exact (new_stay hs.rel j).1 ⟨i', f, hi, this⟩
      · simp only [OwnE, Ro.tipAt, if_true] at ho; omega
  | tip id pos =>
    simp only [app] at h
    rw [nth_eq] at h
    split at h
    case h_2 => exact h.elim
    rename_i p hid
    replace h : p = pos ∧ K (.sl size (xs ++ ys) (.tip id (pos + ys.length))) (setN s.hp id (.tip (pos + ys.length))) := h
    obtain ⟨rfl, h⟩ := h
    obtain ⟨hidl, _, hhdr⟩ := htk
    obtain ⟨hpos', hle, hblk⟩ := hs.rel.ents id _ hid
    obtain ⟨hh1, hh2⟩ := hhdr hpos'
    by_cases hys : ys = []
    · have hp := rel_tip hs.rel (l := ρ.t id) (p' := p + ys.length) (w' := w) hid (by rw [hpos']; simp [hys]) (.inr ⟨rfl, by simp [hys]⟩) rfl rfl rfl (Nat.le_refl _) (fun b ob hb => ⟨ob, hb, okBlk.refl _ _⟩) hle (fun o' h1 h2 => .inl ⟨rfl, h1, h2⟩) hblk
      refine ⟨_, w, _, _, _, nothing hys, h, ?_, hp.1, hp.2⟩
      subst hys
      rw [List.append_nil]
      refine val_sl_mk hl hcap ⟨by rw [setN_eq]; simpa using hidl, by simp [Ro.tipAt, hpos'], fun _ => by simpa [Ro.tipAt] using ⟨hh1, hh2⟩⟩ (fun hn => ?_)
      obtain ⟨b, o', e', hg⟩ := hne hn
      exact ⟨b, o', e', fun i x hi => let ⟨vs, a1, a2, a3⟩ := hg i x hi; ⟨vs, a1.imp fun _ _ h => h.keep hp.1.keeps.zero, a2, a3.keep hp.1.keeps.rd⟩⟩
    · have hyl : 0 < ys.length := by cases ys <;> simp_all
      by_cases hroom : len + ys.length ≤ cap
      · obtain ⟨o', rfl, ho'⟩ := hh2 (by omega)
        obtain ⟨st, hst0⟩ : ∃ st, st = (ρ.t id).start := ⟨_, rfl⟩
        have hfit : ys.length * size ≤ (cap - len) * size := Nat.mul_le_mul_right size (by omega)
        have hdr2 : st + ys.length * size + (cap - (len + ys.length)) * size = (ρ.t id).stop := by
          rw [← hh1, ← hst0, Nat.add_assoc, ← Nat.add_mul]; congr 2; omega
        by_cases hz : size = 0
        · -- no cells at all
          have hn0 : news = [] := List.eq_nil_of_length_eq_zero (by rw [hnl, hz]; simp)
          subst hn0
          have hrun := run_append_room_src w t u ty _ i hut hty.info (ρ.t id).blk o' len cap x ys.length [] (by rw [← hsi]; exact hsrc) hroom (by simp) (by simp)
          simp only [World.setCells] at hrun
          have hp := rel_tip hs.rel (l := ⟨(ρ.t id).blk, st + ys.length * size, (ρ.t id).stop, p + ys.length⟩) (p' := p + ys.length) (w' := w) hid rfl (.inl (by omega)) rfl rfl rfl (Nat.le_refl _) (fun b ob hb => ⟨ob, hb, okBlk.refl _ _⟩)
            (by simp only; omega) (fun o'' h1 h2 => .inl ⟨rfl, by simp only at h1; omega, h2⟩) (fun hlt => by
              obtain ⟨c, e', f, g1, g2, g3⟩ := hblk (by simp only at hlt; omega)
              exact ⟨c, e', f, g1, g2, fun o'' h1 h2 => g3 o'' (by simp only at h1; omega) h2⟩)
          refine ⟨_, w, _, _, _, hrun, h, ?_, hp.1, hp.2⟩
          refine val_sl_mk (by simp [hl]) hroom ⟨by rw [setN_eq]; simpa using hidl, by simp [Ro.tipAt], fun _ => by
            simp only [Ro.tipAt, if_true, hdr]; refine ⟨by omega, fun _ => ⟨o', rfl, ?_⟩⟩; rw [hst0, ← ho', hz]; simp⟩ (fun _ => ⟨_, _, rfl, ?_⟩)
          refine all2_append_cells (vals_keep2 hp.1.keeps.rd hxs.cells) (vals_keep2 hp.1.keeps.rd ha.cells) hol (fun j v hj => ?_)
          have : olds = [] := List.eq_nil_of_length_eq_zero (by rw [hol, hz]; simp)
          subst this
          simp at hj
        · have hspos : 0 < size := Nat.pos_of_ne_zero hz
          have hstlt : (ρ.t id).start < (ρ.t id).stop := by
            rw [← hh1]; have : 0 < (cap - len) * size := Nat.mul_pos (by omega) hspos; omega
          obtain ⟨c, e', f, g1, g2, g3⟩ := hblk hstlt
          have hin : st + news.length ≤ c.size := by rw [hnl]; omega
          have hoff : o' + len * i.size = st := by rw [← hsi, ho', hst0]
          have hrun := run_append_room_src w t u ty _ i hut hty.info (ρ.t id).blk o' len cap x ys.length news (by rw [← hsi]; exact hsrc) hroom
            (fun j hj => by rw [hoff]; have hlt : st + j < c.size := by omega
                            simp [World.cell?, g1, hlt])
            (fun j hj => by rw [hoff]; exact g3 _ (by omega) (by rw [← hh1, ← hst0]; rw [hnl] at hj; omega))
          rw [hoff] at hrun
          obtain ⟨c', k1, k2, k3, k4⟩ := setCells_heap (ρ.t id).blk news st w g1
          obtain ⟨q1, q2, q3, q4⟩ := setCells_same (ρ.t id).blk news st w
          have hp := rel_tip hs.rel (l := ⟨(ρ.t id).blk, st + ys.length * size, (ρ.t id).stop, p + ys.length⟩) (p' := p + ys.length) (w' := w.setCells (ρ.t id).blk st news) hid rfl (.inl (by omega)) q2 q3 q4 (by rw [q1]; exact Nat.le_refl _)
            (fun b ob hb => by
              by_cases hbb : b = (ρ.t id).blk
              · subst hbb
                rw [g1] at hb; simp only [Option.some.injEq] at hb; subst hb
                refine ⟨_, k1, c', rfl, k2, fun o'' ho'' => k3 o'' ?_⟩
                rcases Nat.lt_or_ge o'' st with hlt | hge
                · exact .inl hlt
                · right
                  rcases Nat.lt_or_ge o'' (st + news.length) with hlt' | hge'
                  · exact absurd ⟨rfl, by omega, by rw [← hh1, ← hst0]; rw [hnl] at hlt'; omega⟩ ho''
                  · exact hge'
              · exact ⟨ob, by rw [setCells_other _ _ _ _ _ hbb]; exact hb, okBlk.refl _ _⟩)
            (by simp only; omega) (fun o'' h1 h2 => .inl ⟨rfl, by simp only at h1; omega, h2⟩)
            (fun hlt => ⟨c', e', f, k1, by simp only; omega, fun o'' h1 h2 => by rw [World.frozen?_setCells]; exact g3 o'' (by simp only at h1; omega) h2⟩)
          refine ⟨_, _, _, _, _, hrun, h, ?_, hp.1, hp.2⟩
          refine val_sl_mk (by simp [hl]) hroom ⟨by rw [setN_eq]; simpa using hidl, by simp [Ro.tipAt], fun _ => by
            simp only [Ro.tipAt, if_true, hdr]; refine ⟨by omega, fun _ => ⟨o', rfl, ?_⟩⟩; rw [hst0, ← ho', Nat.add_assoc, Nat.add_mul]⟩ (fun _ => ⟨_, _, rfl, ?_⟩)
          refine all2_append_cells (vals_keep2 hp.1.keeps.rd hxs.cells) (vals_keep2 hp.1.keeps.rd ha.cells) hol (fun j v hj => ?_)
          by_cases hjo : j < olds.length
          · rw [List.getElem?_append_left hjo] at hj
            have h1 := hrd _ _ _ _ rfl j v hj
            exact ⟨(hp.1.keeps.rd _ _ _ h1.1 h1.2.1).1, (hp.1.keeps.rd _ _ _ h1.1 h1.2.1).2, h1.2.2⟩
          · have hge := Nat.le_of_not_lt hjo
            rw [List.getElem?_append_right hge] at hj
            have hjl := lt_of_get hj
            have hadr : o' + j = st + (j - olds.length) := by rw [hst0, ← ho', hl, ← hol]; omega
            rw [hadr]
            refine ⟨⟨?_, ?_⟩, ?_, hsrc.one _ (List.mem_of_getElem? hj)⟩
            · intro hown
              rcases (own_tipAt hid _ _).1 hown with ⟨_, h1, h2⟩ | ⟨i'', f', hne', hi', ho'⟩
              · simp only at h1; rw [← hnl] at h1; omega
              · exact hne' (hs.rel.disj i'' id f' _ (ρ.t id).blk (st + (j - olds.length)) hi' hid ho' ⟨rfl, by omega, by rw [← hh1, ← hst0]; rw [hnl] at hjl; omega⟩)
            · exact hs.rel.xown _ _ ⟨id, _, hid, rfl, by omega, by rw [← hh1, ← hst0]; rw [hnl] at hjl; omega⟩
            · rw [cellAt_cells k1]; exact k4 hin _ _ hj
      · obtain ⟨c, g, hg, hrun, hcs, hcc⟩ := grows (by omega)
        have hp := rel_tip hs.rel (l := ⟨w.heap.size, (len + ys.length) * size, g * size, p + ys.length⟩) (p' := p + ys.length) (w' := w.drew.alloc (.cells c e)) hid rfl (.inl (by omega)) rfl rfl rfl (by rw [World.size_alloc]; simp)
          (fun b ob hb => ⟨ob, heap_alloc_old (w := w.drew) hb, okBlk.refl _ _⟩) (Nat.mul_le_mul_right size hg) (fun _ _ _ => .inr (Nat.le_refl _))
          (fun _ => ⟨c, e, (0, 0), heap_alloc_new (w := w.drew), by simp [hcs], fun o' _ _ => World.frozen?_alloc_new w.drew c e o'⟩)
        refine ⟨_, _, _, _, _, hrun, h, ?_, hp.1, hp.2⟩
        refine newTip (heap_alloc_new (w := w.drew)) hg hcs hcc hp.1 (by rw [setN_eq]; simpa using hidl) (by simp [Ro.tipAt]) (fun j hj => ⟨?_, (new_stay hs.rel j).2⟩)
        rintro ⟨i', f, hi, ho⟩
        rcases (own_tipAt hid _ _).1 ⟨i', f, hi, ho⟩ with ⟨_, h1, h2⟩ | ⟨i'', f', _, hi', ho'⟩
        · simp only at h1; omega
        · exact (new_stay hs.rel j).1 ⟨i'', f', hi', ho'⟩

end
end Go.Pt
