/- What a row's reading of an argument says of the value, where all that is read is of bounded bulk. -/
import Derived.Test.YtilffanmaicakaaAmRead
namespace Go.Pt
open Go

/-- A measure of data, as a row's text defines it. -/
structure Bulk where
  b : {H : Type} → DataW H → Nat
  all : {H : Type} → List (DataW H) → Nat
  nil : ∀ {H : Type}, all (H := H) [] = 0
  cons : ∀ {H : Type} (d : DataW H) (r : List (DataW H)), all (d :: r) = b d + all r
  agg : ∀ {H : Type} (l : List (DataW H)), b (DataW.agg l) = all l + 1
  slice : ∀ {H : Type} (l r : List (DataW H)), b (DataW.slice l r) = all l + all r + 1
  one : ∀ {H : Type} (d : DataW H), 1 ≤ b d
  str : ∀ {H : Type} (l : List UInt8), b (DataW.lit (H := H) (.string l)) = l.length + 1

section
variable {P : Program} {B : Bulk}

structure RdB (P : Program) (B : Bulk) (t : TypeId) (α : Type) (mk : α → AV) (ok : α → Prop) (sz : α → Nat) : Prop where
  rd : ∀ {H : Type} {enc : TypeId × Value → H} {w : World} {base : Nat} {sp : Nat → Bool} {held : Bool} {fuel : Nat} {cs : List Value} {x : DataW H × List MemPlace},
    DataW.trod enc P w base sp held fuel t cs = some x → ∃ a, (ok a ∧ sz a ≤ B.b x.1) ∧ All2 (V0 w) (mk a).cells cs ∧ ∀ c ∈ cs, c.oneCell' = true

theorem rdB_bool {t : TypeId} (ht : P.underlying t = some .bool) : RdB P B t Bool .bool (fun _ => True) (fun _ => 1) := ⟨by
  intro H enc w base sp held fuel cs x h
  cases fuel with
  | zero => simp [DataW.trod] at h
  | succ n =>
    rw [DataW.trod_step] at h
    simp only [DataW.trodStep, ht] at h
    rcases cs with _ | ⟨c, _ | ⟨c', cs⟩⟩ <;> try (simp at h; done)
    cases c <;> try (simp at h; done)
    rename_i b
    exact ⟨b, ⟨trivial, B.one _⟩, ⟨⟨1, rfl⟩, trivial⟩, by simp [Value.oneCell']⟩⟩

theorem rdB_int {t : TypeId} {k : IntKind} (ht : P.underlying t = some (.int k)) : RdB P B t Int (.int k) (fun n => (Lit.int k n).wf = true) (fun _ => 1) := ⟨by
  intro H enc w base sp held fuel cs x h
  cases fuel with
  | zero => simp [DataW.trod] at h
  | succ n =>
    rw [DataW.trod_step] at h
    simp only [DataW.trodStep, ht] at h
    rcases cs with _ | ⟨c, _ | ⟨c', cs⟩⟩ <;> try (simp at h; done)
    cases c <;> try (simp at h; done)
    rename_i k' b
    simp only at h
    split at h
    · rename_i hh
      obtain ⟨rfl, hwf⟩ := hh
      exact ⟨b, ⟨hwf, B.one _⟩, ⟨⟨1, rfl⟩, trivial⟩, by simp [Value.oneCell']⟩
    · simp at h⟩

theorem rdB_str {t : TypeId} (ht : P.underlying t = some .string) : RdB P B t ByteArray .str (fun s => s.size ≤ maxLen) (fun s => s.size + 1) := ⟨by
  intro H enc w base sp held fuel cs x h
  cases fuel with
  | zero => simp [DataW.trod] at h
  | succ n =>
    rw [DataW.trod_step] at h
    simp only [DataW.trodStep, ht] at h
    rcases cs with _ | ⟨c, _ | ⟨c', cs⟩⟩ <;> try (simp at h; done)
    cases c <;> try (simp at h; done)
    rename_i b
    simp only at h
    split at h
    · rename_i hh
      simp only [Option.some.injEq] at h
      subst h
      refine ⟨b, ⟨hh, ?_⟩, ⟨⟨1, rfl⟩, trivial⟩, by simp [Value.oneCell']⟩
      exact Nat.le_of_eq (by rw [B.str, Array.length_toList]; rfl)
    · simp at h⟩

/-- The fields of a struct, from the place off on; n cells are in all. -/
structure RdBF (P : Program) (B : Bulk) (n off : Nat) (fs : List Field) (α : Type) (cells : α → List AV) (ok : α → Prop) (sz : α → Nat) : Prop where
  rd : ∀ {H : Type} {enc : TypeId × Value → H} {w : World} {base : Nat} {sp : Nat → Bool} {held : Bool} {fuel : Nat} {cs : List Value} {xs : List (DataW H × List MemPlace)},
    cs.length = n → (fs.mapM fun f => DataW.trod enc P w base sp held fuel f.type ((cs.drop f.offset).take (P.cellsOf f.type))) = some xs →
      ∃ a, (ok a ∧ sz a ≤ B.all (xs.map (·.1))) ∧ All2 (V0 w) (cells a) (cs.drop off) ∧ ∀ c ∈ cs.drop off, c.oneCell' = true

theorem rdBf_nil {n : Nat} : RdBF P B n n [] Unit (fun _ => []) (fun _ => True) (fun _ => 0) := ⟨by
  intro H enc w base sp held fuel cs xs hl h
  have : cs.drop n = [] := by rw [← hl]; simp
  exact ⟨(), ⟨trivial, Nat.zero_le _⟩, by rw [this]; trivial, by rw [this]; simp⟩⟩

theorem rdBf_end {n off : Nat} (h : off = n) : RdBF P B n off [] Unit (fun _ => []) (fun _ => True) (fun _ => 0) := h ▸ rdBf_nil

theorem rdBf_cons {n off : Nat} {f : Field} {fs : List Field} {α β : Type} {mk : α → AV} {ok : α → Prop} {cells : β → List AV} {ok' : β → Prop} {sz : α → Nat} {sz' : β → Nat} (ho : f.offset = off)
    (r : RdB P B f.type α mk ok sz) (rs : RdBF P B n (off + P.cellsOf f.type) fs β cells ok' sz') : RdBF P B n off (f :: fs) (α × β) (fun x => (mk x.1).cells ++ cells x.2) (fun x => ok x.1 ∧ ok' x.2) (fun x => sz x.1 + sz' x.2) := ⟨by
  intro H enc w base sp held fuel cs xs hl h
  rw [List.mapM_cons] at h
  simp only [Option.bind_eq_bind, Option.bind_eq_some_iff] at h
  obtain ⟨x, hx, ys, hys, e⟩ := h
  simp only [Option.pure_def, Option.some.injEq] at e
  subst e
  rw [ho] at hx
  obtain ⟨a, ha, hv, hc⟩ := r.rd hx
  obtain ⟨b, hb, hv', hc'⟩ := rs.rd hl hys
  have e : cs.drop off = (cs.drop off).take (P.cellsOf f.type) ++ cs.drop (off + P.cellsOf f.type) := by
    rw [← List.drop_drop]; exact (List.take_append_drop _ _).symm
  refine ⟨(a, b), ⟨⟨ha.1, hb.1⟩, ?_⟩, by rw [e]; exact hv.append hv', fun c hm => ?_⟩
  · rw [List.map_cons, B.cons]; exact Nat.add_le_add ha.2 hb.2
  rw [e] at hm
  rcases List.mem_append.1 hm with h | h
  · exact hc c h
  · exact hc' c h⟩

theorem rdB_struct {t : TypeId} {fs : Array Field} {α : Type} {cells : α → List AV} {ok : α → Prop} {sz : α → Nat} (ht : P.underlying t = some (.struct fs)) (r : RdBF P B (P.cellsOf t) 0 fs.toList α cells ok sz) : RdB P B t α (fun x => .agg (cells x)) ok (fun x => sz x + 1) := ⟨by
  intro H enc w base sp held fuel cs x h
  cases fuel with
  | zero => simp [DataW.trod] at h
  | succ n =>
    rw [DataW.trod_step] at h
    simp only [DataW.trodStep, ht] at h
    split at h
    · rename_i hl
      obtain ⟨xs, hxs, e⟩ := Option.map_eq_some_iff.1 h
      subst e
      obtain ⟨a, ha, hv, hc⟩ := r.rd hl hxs
      exact ⟨a, ⟨ha.1, by simp only [B.agg]; exact Nat.succ_le_succ ha.2⟩, by simpa [AV.cells] using hv, by simpa using hc⟩
    · simp at h⟩

theorem rdB_conv {t : TypeId} {α β : Type} {mk : α → AV} {ok : α → Prop} {mk' : β → AV} {ok' : β → Prop} {sz : α → Nat} {sz' : β → Nat} (r : RdB P B t α mk ok sz) (g : α → β) (hm : ∀ x, mk' (g x) = mk x) (ho : ∀ x, ok x → ok' (g x)) (hs : ∀ x, sz' (g x) ≤ sz x) : RdB P B t β mk' ok' sz' := ⟨by
  intro H enc w base sp held fuel cs x h
  obtain ⟨a, ha, hv, hc⟩ := r.rd h
  exact ⟨g a, ⟨ho a ha.1, Nat.le_trans (hs a) ha.2⟩, by rw [hm]; exact hv, hc⟩⟩

theorem sum_le {H α : Type} {sz : α → Nat} : ∀ {l : List α} {m : List (DataW H)}, l.length = m.length → (∀ (i : Nat) (x : α) (y : DataW H), l[i]? = some x → m[i]? = some y → sz x ≤ B.b y) → (l.map sz).sum ≤ B.all m
  | [], [], _, _ => by simp
  | x :: l, y :: m, hl, h => by
    have h0 := h 0 x y rfl rfl
    have := sum_le (l := l) (m := m) (by simpa using hl) fun i x' y' h1 h2 => h (i + 1) x' y' (by simpa using h1) (by simpa using h2)
    rw [B.cons]; simp; omega

/-- Slices; nil is one of no elements. -/
theorem rdB_slice {t e : TypeId} {s : Nat} {α : Type} {mk : α → AV} {ok : α → Prop} {sz : α → Nat} (ht : P.underlying t = some (.slice e)) (hs : P.cellsOf e = s) (hp : 0 < s) (r : RdB P B e α mk ok sz) :
    RdB P B t (List α) (fun l => .sl s (l.map mk) .no) (fun l => ∀ x ∈ l, ok x) (fun l => (l.map sz).sum + 1) := ⟨by
  intro H enc w base sp held fuel cs x h
  cases fuel with
  | zero => simp [DataW.trod] at h
  | succ n =>
    rw [DataW.trod_step] at h
    simp only [DataW.trodStep, ht] at h
    rcases cs with _ | ⟨c, _ | ⟨c', cs⟩⟩ <;> try (simp at h; done)
    cases c <;> try (simp at h; done)
    rename_i ad len cap
    cases ad with
    | none =>
      have hz : len = 0 ∧ cap = 0 := by
        cases len <;> cases cap <;> simp at h <;> simp
      obtain ⟨rfl, rfl⟩ := hz
      exact ⟨[], ⟨by simp, by simpa using B.one _⟩, ⟨val_sl_mk rfl (Nat.le_refl _) trivial (fun h => absurd rfl h), trivial⟩, by simp [Value.oneCell']⟩
    | some a =>
      simp only at h
      split at h
      case isFalse => simp at h
      rename_i hc
      obtain ⟨hb, hlc, hcm⟩ := hc
      simp only [Option.bind_eq_some_iff] at h
      obtain ⟨elems, hel, h⟩ := h
      obtain ⟨rest, _, e⟩ := Option.map_eq_some_iff.1 h
      subst e
      have hlel : elems.length = len := by have := mapM_len hel; simpa using this
      have each : ∀ i, i < len → ∃ x : α, (ok x ∧ ∀ y, elems[i]? = some y → sz x ≤ B.b y.1) ∧ ∃ vs : List Value, All2 (V0 w) (mk x).cells vs ∧ (∀ c ∈ vs, c.oneCell' = true) ∧ vs.length = s ∧ ∀ j u, vs[j]? = some u → w.cell? ((a.add (i * s)).add j) = some u := by
        intro i hi
        obtain ⟨y, hye, hy⟩ := mapM_get hel i i (by simp [hi])
        simp only [Option.bind_eq_some_iff, hs] at hy
        obtain ⟨vs, hvs, hy⟩ := hy
        obtain ⟨x, hx, hv, hone⟩ := r.rd hy
        unfold World.cells? at hvs
        split at hvs
        case isFalse => simp at hvs
        have hlen : vs.length = s := by
          have := mapM_len hvs; simpa using this
        refine ⟨x, ⟨hx.1, fun y' hy' => by rw [hye] at hy'; simp only [Option.some.injEq] at hy'; subst hy'; exact hx.2⟩, vs, hv, hone, hlen, fun j u hu => ?_⟩
        have hj : j < s := by have := (List.getElem?_eq_some_iff.1 hu).1; omega
        obtain ⟨y', hy', he⟩ := mapM_get hvs j j (by simp [hj])
        rw [hu] at hy'; simp at hy'; subst hy'; exact he
      obtain ⟨l, hl, hR⟩ := list_of len each
      refine ⟨l, ⟨fun x hx => ?_, ?_⟩, ⟨val_sl_mk (by simp [hl]) hlc trivial fun hne => ?_, trivial⟩, by simp [Value.oneCell']⟩
      · obtain ⟨i, hi⟩ := List.mem_iff_getElem?.1 hx
        exact (hR i x hi).1.1
      · have := sum_le (B := B) (sz := sz) (l := l) (m := elems.map (·.1)) (by simp [hl, hlel]) fun i x y h1 h2 => by
          rw [List.getElem?_map, Option.map_eq_some_iff] at h2
          obtain ⟨y', hy', rfl⟩ := h2
          exact (hR i x h1).1.2 y' hy'
        simp only [B.slice]; omega
      · have hpos : 0 < len := by
          rcases Nat.eq_zero_or_pos len with h0 | h0
          · exfalso; apply hne; rw [h0] at hl; rw [List.length_eq_zero_iff.1 hl]; rfl
          · exact h0
        have hspot : a.spot = none := by
          obtain ⟨x, _, vs, _, _, hlen, hcell⟩ := each 0 hpos
          have := World.cell?_spot (hcell 0 vs[0] (by simp))
          simpa [Addr.add] using this
        refine ⟨a.block, a.off, by obtain ⟨b, o, sp'⟩ := a; simp at hspot; subst hspot; rfl, fun i y hy => ?_⟩
        rw [List.getElem?_map, Option.map_eq_some_iff] at hy
        obtain ⟨x, hx, rfl⟩ := hy
        obtain ⟨_, vs, hv, hone, hlen, hcell⟩ := hR i x hx
        refine ⟨vs, hv, hlen, fun j u hu => ⟨stay_nil _ _, ?_, hone u (List.mem_of_getElem? hu)⟩⟩
        have := hcell j u hu
        rw [add_spot hspot, add_spot rfl] at this
        exact this⟩
end
end Go.Pt
