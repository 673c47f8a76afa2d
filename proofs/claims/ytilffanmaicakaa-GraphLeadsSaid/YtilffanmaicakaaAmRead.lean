/- What a row's reading of an argument says of the value: by the type's form, as a plain thing and its abstract value. -/
import Derived.Test.YtilffanmaicakaaAmSaid
namespace Go.Pt
open Go

section
variable {P : Program}

abbrev V0 (w : World) : AV → Value → Prop := Val w (Stay Ro.nil []) Ro.nil 0

/-- A value of type t that a row can read is some x. -/
structure Rd (P : Program) (t : TypeId) (α : Type) (mk : α → AV) (ok : α → Prop) : Prop where
  rd : ∀ {H : Type} {enc : TypeId × Value → H} {w : World} {base : Nat} {sp : Nat → Bool} {held : Bool} {fuel : Nat} {cs : List Value} {x : DataW H × List MemPlace},
    DataW.trod enc P w base sp held fuel t cs = some x → (∀ n ∈ x.1.weights P t, n ≤ reachBytes) → ∃ a, ok a ∧ All2 (V0 w) (mk a).cells cs ∧ ∀ c ∈ cs, c.oneCell' = true

theorem rd_bool {t : TypeId} (ht : P.underlying t = some .bool) : Rd P t Bool .bool (fun _ => True) := ⟨by
  intro H enc w base sp held fuel cs x h hw
  cases fuel with
  | zero => simp [DataW.trod] at h
  | succ n =>
    rw [DataW.trod_step] at h
    simp only [DataW.trodStep, ht] at h
    rcases cs with _ | ⟨c, _ | ⟨c', cs⟩⟩ <;> try (simp at h; done)
    cases c <;> try (simp at h; done)
    rename_i b
    exact ⟨b, trivial, ⟨⟨1, rfl⟩, trivial⟩, by simp [Value.oneCell']⟩⟩

theorem rd_int {t : TypeId} {k : IntKind} (ht : P.underlying t = some (.int k)) : Rd P t Int (.int k) (fun n => (Lit.int k n).wf = true) := ⟨by
  intro H enc w base sp held fuel cs x h hw
  cases fuel with
  | zero => simp [DataW.trod] at h
  | succ n =>
    rw [DataW.trod_step] at h
    simp only [DataW.trodStep, ht] at h
    rcases cs with _ | ⟨c, _ | ⟨c', cs⟩⟩ <;> try (simp at h; done)
    cases c <;> try (simp at h; done)
    rename_i k' b
    simp only at h
    split at h
    · rename_i hh
      obtain ⟨rfl, hwf⟩ := hh
      exact ⟨b, hwf, ⟨⟨1, rfl⟩, trivial⟩, by simp [Value.oneCell']⟩
    · simp at h⟩

theorem rd_str {t : TypeId} (ht : P.underlying t = some .string) : Rd P t ByteArray .str (fun s => s.size ≤ maxLen) := ⟨by
  intro H enc w base sp held fuel cs x h hw
  cases fuel with
  | zero => simp [DataW.trod] at h
  | succ n =>
    rw [DataW.trod_step] at h
    simp only [DataW.trodStep, ht] at h
    rcases cs with _ | ⟨c, _ | ⟨c', cs⟩⟩ <;> try (simp at h; done)
    cases c <;> try (simp at h; done)
    rename_i b
    simp only at h
    split at h
    · rename_i hh
      exact ⟨b, hh, ⟨⟨1, rfl⟩, trivial⟩, by simp [Value.oneCell']⟩
    · simp at h⟩

/-- The fields of a struct, from the place off on; n cells are in all. -/
structure RdF (P : Program) (n off : Nat) (fs : List Field) (α : Type) (cells : α → List AV) (ok : α → Prop) : Prop where
  rd : ∀ {H : Type} {enc : TypeId × Value → H} {w : World} {base : Nat} {sp : Nat → Bool} {held : Bool} {fuel : Nat} {cs : List Value} {xs : List (DataW H × List MemPlace)},
    cs.length = n → (fs.mapM fun f => DataW.trod enc P w base sp held fuel f.type ((cs.drop f.offset).take (P.cellsOf f.type))) = some xs →
      (∀ n ∈ DataW.weightsEach P (fs.map (·.type)) (xs.map (·.1)), n ≤ reachBytes) → ∃ a, ok a ∧ All2 (V0 w) (cells a) (cs.drop off) ∧ ∀ c ∈ cs.drop off, c.oneCell' = true

theorem rdf_nil {n : Nat} : RdF P n n [] Unit (fun _ => []) (fun _ => True) := ⟨by
  intro H enc w base sp held fuel cs xs hl h hw
  have : cs.drop n = [] := by rw [← hl]; simp
  exact ⟨(), trivial, by rw [this]; trivial, by rw [this]; simp⟩⟩

theorem rdf_end {n off : Nat} (h : off = n) : RdF P n off [] Unit (fun _ => []) (fun _ => True) := h ▸ rdf_nil

theorem rdf_cons {n off : Nat} {f : Field} {fs : List Field} {α β : Type} {mk : α → AV} {ok : α → Prop} {cells : β → List AV} {ok' : β → Prop} (ho : f.offset = off)
    (r : Rd P f.type α mk ok) (rs : RdF P n (off + P.cellsOf f.type) fs β cells ok') : RdF P n off (f :: fs) (α × β) (fun x => (mk x.1).cells ++ cells x.2) (fun x => ok x.1 ∧ ok' x.2) := ⟨by
  intro H enc w base sp held fuel cs xs hl h hw
  rw [List.mapM_cons] at h
  simp only [Option.bind_eq_bind, Option.bind_eq_some_iff] at h
  obtain ⟨x, hx, ys, hys, e⟩ := h
  simp only [Option.pure_def, Option.some.injEq] at e
  subst e
  simp only [List.map_cons, DataW.weightsEach, List.mem_append] at hw
  rw [ho] at hx
  obtain ⟨a, ha, hv, hc⟩ := r.rd hx fun n hn => hw n (.inl hn)
  obtain ⟨b, hb, hv', hc'⟩ := rs.rd hl hys fun n hn => hw n (.inr hn)
  have e : cs.drop off = (cs.drop off).take (P.cellsOf f.type) ++ cs.drop (off + P.cellsOf f.type) := by
    rw [← List.drop_drop]; exact (List.take_append_drop _ _).symm
  refine ⟨(a, b), ⟨ha, hb⟩, by rw [e]; exact hv.append hv', fun c hm => ?_⟩
  rw [e] at hm
  rcases List.mem_append.1 hm with h | h
  · exact hc c h
  · exact hc' c h⟩

theorem rd_struct {t : TypeId} {fs : Array Field} {α : Type} {cells : α → List AV} {ok : α → Prop} (ht : P.underlying t = some (.struct fs)) (r : RdF P (P.cellsOf t) 0 fs.toList α cells ok) : Rd P t α (fun x => .agg (cells x)) ok := ⟨by
  intro H enc w base sp held fuel cs x h hw
  cases fuel with
  | zero => simp [DataW.trod] at h
  | succ n =>
    rw [DataW.trod_step] at h
    simp only [DataW.trodStep, ht] at h
    split at h
    · rename_i hl
      obtain ⟨xs, hxs, e⟩ := Option.map_eq_some_iff.1 h
      subst e
      simp only [DataW.weights, ht] at hw
      obtain ⟨a, ha, hv, hc⟩ := r.rd hl hxs hw
      exact ⟨a, ha, by simpa [AV.cells] using hv, by simpa using hc⟩
    · simp at h⟩

theorem rd_conv {t : TypeId} {α β : Type} {mk : α → AV} {ok : α → Prop} {mk' : β → AV} {ok' : β → Prop} (r : Rd P t α mk ok) (g : α → β) (hm : ∀ x, mk' (g x) = mk x) (ho : ∀ x, ok x → ok' (g x)) : Rd P t β mk' ok' := ⟨by
  intro H enc w base sp held fuel cs x h hw
  obtain ⟨a, ha, hv, hc⟩ := r.rd h hw
  exact ⟨g a, ho a ha, by rw [hm]; exact hv, hc⟩⟩

theorem list_of {α : Type} {R : Nat → α → Prop} : ∀ (n : Nat), (∀ i, i < n → ∃ x, R i x) → ∃ l : List α, l.length = n ∧ ∀ i x, l[i]? = some x → R i x
  | 0, _ => ⟨[], rfl, fun i x h => by simp at h⟩
  | n + 1, h => by
    obtain ⟨l, hl, hr⟩ := list_of n fun i hi => h i (by omega)
    obtain ⟨x, hx⟩ := h n (by omega)
    refine ⟨l ++ [x], by simp [hl], fun i y hy => ?_⟩
    rcases Nat.lt_trichotomy i n with hlt | rfl | hgt
    · rw [List.getElem?_append_left (by omega)] at hy; exact hr i y hy
    · rw [List.getElem?_append_right (by omega), hl] at hy
      simp at hy; subst hy; exact hx
    · rw [List.getElem?_eq_none (by simp; omega)] at hy; simp at hy

theorem mapM_get {α β : Type} {f : α → Option β} : ∀ {l : List α} {m : List β}, l.mapM f = some m → ∀ (i : Nat) (x : α), l[i]? = some x → ∃ y, m[i]? = some y ∧ f x = some y
  | [], _, _, i, x, hx => by simp at hx
  | a :: l, m, h, i, x, hx => by
    rw [List.mapM_cons] at h
    simp only [Option.bind_eq_bind, Option.bind_eq_some_iff] at h
    obtain ⟨y, hy, ys, hys, e⟩ := h
    simp only [Option.pure_def, Option.some.injEq] at e
    subst e
    cases i with
    | zero => simp at hx; subst hx; exact ⟨y, rfl, hy⟩
    | succ i => exact mapM_get hys i x (by simpa using hx)

theorem mapM_len {α β : Type} {f : α → Option β} : ∀ {l : List α} {m : List β}, l.mapM f = some m → m.length = l.length
  | [], m, h => by simp at h; subst h; rfl
  | a :: l, m, h => by
    rw [List.mapM_cons] at h
    simp only [Option.bind_eq_bind, Option.bind_eq_some_iff] at h
    obtain ⟨y, hy, ys, hys, e⟩ := h
    simp only [Option.pure_def, Option.some.injEq] at e
    subst e
    simp [mapM_len hys]

theorem add_spot {a : Addr} {n : Nat} (h : a.spot = none) : a.add n = ⟨a.block, a.off + n, none⟩ := by
  obtain ⟨b, o, sp⟩ := a
  simp at h; subst h
  simp only [Addr.add]; split <;> simp_all

theorem mem_weightsAll {H : Type} {e : TypeId} {d : DataW H} {n : Nat} : ∀ {l : List (DataW H)}, d ∈ l → n ∈ d.weights P e → n ∈ DataW.weightsAll P e l
  | [], h, _ => by simp at h
  | x :: l, h, hn => by
    simp only [DataW.weightsAll, List.mem_append]
    rcases List.mem_cons.1 h with rfl | h
    · exact .inl hn
    · exact .inr (mem_weightsAll h hn)

/-- Slices; nil is one of no elements. -/
theorem rd_slice {t e : TypeId} {s : Nat} {α : Type} {mk : α → AV} {ok : α → Prop} (ht : P.underlying t = some (.slice e)) (hs : P.cellsOf e = s) (hp : 0 < s) (r : Rd P e α mk ok) :
    Rd P t (List α) (fun l => .sl s (l.map mk) .no) (fun l => (∀ x ∈ l, ok x) ∧ l.length * P.bytesOf e ≤ reachBytes) := ⟨by
  intro H enc w base sp held fuel cs x h hw
  cases fuel with
  | zero => simp [DataW.trod] at h
  | succ n =>
    rw [DataW.trod_step] at h
    simp only [DataW.trodStep, ht] at h
    rcases cs with _ | ⟨c, _ | ⟨c', cs⟩⟩ <;> try (simp at h; done)
    cases c <;> try (simp at h; done)
    rename_i ad len cap
    cases ad with
    | none =>
      have hz : len = 0 ∧ cap = 0 := by
        cases len <;> cases cap <;> simp at h <;> simp
      obtain ⟨rfl, rfl⟩ := hz
      exact ⟨[], ⟨by simp, by simp⟩, ⟨val_sl_mk rfl (Nat.le_refl _) trivial (fun h => absurd rfl h), trivial⟩, by simp [Value.oneCell']⟩
    | some a =>
      simp only at h
      split at h
      case isFalse => simp at h
      rename_i hc
      obtain ⟨hb, hlc, hcm⟩ := hc
      simp only [Option.bind_eq_some_iff] at h
      obtain ⟨elems, hel, h⟩ := h
      obtain ⟨rest, _, e⟩ := Option.map_eq_some_iff.1 h
      subst e
      simp only [DataW.weights, ht, List.mem_cons, List.mem_append, List.length_map, forall_eq_or_imp] at hw
      have hwt := hw.1
      have hlel : elems.length = len := by have := mapM_len hel; simpa using this
      have each : ∀ i, i < len → ∃ x : α, ok x ∧ ∃ vs : List Value, All2 (V0 w) (mk x).cells vs ∧ (∀ c ∈ vs, c.oneCell' = true) ∧ vs.length = s ∧ ∀ j u, vs[j]? = some u → w.cell? ((a.add (i * s)).add j) = some u := by
        intro i hi
        obtain ⟨y, hye, hy⟩ := mapM_get hel i i (by simp [hi])
        simp only [Option.bind_eq_some_iff, hs] at hy
        obtain ⟨vs, hvs, hy⟩ := hy
        obtain ⟨x, hx, hv, hone⟩ := r.rd hy fun n hn => hw.2 n (.inl (mem_weightsAll (List.mem_map_of_mem (List.mem_of_getElem? hye)) hn))
        unfold World.cells? at hvs
        split at hvs
        case isFalse => simp at hvs
        have hlen : vs.length = s := by
          have := mapM_len hvs; simpa using this
        refine ⟨x, hx, vs, hv, hone, hlen, fun j u hu => ?_⟩
        have hj : j < s := by have := (List.getElem?_eq_some_iff.1 hu).1; omega
        obtain ⟨y', hy', he⟩ := mapM_get hvs j j (by simp [hj])
        rw [hu] at hy'; simp at hy'; subst hy'; exact he
      obtain ⟨l, hl, hR⟩ := list_of len each
      refine ⟨l, ⟨fun x hx => ?_, by rw [hl, ← hlel]; exact Nat.le_trans (Nat.mul_le_mul_right _ (Nat.le_add_right _ _)) hwt⟩, ⟨val_sl_mk (by simp [hl]) hlc trivial fun hne => ?_, trivial⟩, by simp [Value.oneCell']⟩
      · obtain ⟨i, hi⟩ := List.mem_iff_getElem?.1 hx
        exact (hR i x hi).1
      · have hpos : 0 < len := by
          rcases Nat.eq_zero_or_pos len with h0 | h0
          · exfalso; apply hne; rw [h0] at hl; rw [List.length_eq_zero_iff.1 hl]; rfl
          · exact h0
        have hspot : a.spot = none := by
          obtain ⟨x, _, vs, _, _, hlen, hcell⟩ := each 0 hpos
          have := World.cell?_spot (hcell 0 vs[0] (by simp))
          simpa [Addr.add] using this
        refine ⟨a.block, a.off, by obtain ⟨b, o, sp'⟩ := a; simp at hspot; subst hspot; rfl, fun i y hy => ?_⟩
        rw [List.getElem?_map, Option.map_eq_some_iff] at hy
        obtain ⟨x, hx, rfl⟩ := hy
        obtain ⟨_, vs, hv, hone, hlen, hcell⟩ := hR i x hx
        refine ⟨vs, hv, hlen, fun j u hu => ⟨stay_nil _ _, ?_, hone u (List.mem_of_getElem? hu)⟩⟩
        have := hcell j u hu
        rw [add_spot hspot, add_spot rfl] at this
        exact this⟩

/-- Of an argument of one cell. -/
theorem arg_one {a : AV} {v : Value} {w : World} (h : All2 (V0 w) a.cells v.cells.toList) (ha : a.cells = [a]) (hv : v.cells = #[v]) : V0 w a v := by
  rw [ha, hv] at h
  exact h.1

theorem all2_val {w : World} : ∀ {l : List AV} {m : List Value}, All2 (V0 w) l m → ∃ d, All2 (Cz w (Stay Ro.nil []) Ro.nil d 0) l m := fun h => all2_depth h

/-- Of a struct or array. -/
theorem arg_agg {l : List AV} {c : Array Value} {w : World} (h : All2 (V0 w) (AV.agg l).cells (Value.agg c).cells.toList) : V0 w (.agg l) (.agg c) := by
  obtain ⟨d, hd⟩ := all2_depth (show All2 (V0 w) l c.toList from h)
  exact ⟨d + 1, c.toList, by simp, hd⟩

end
end Go.Pt
