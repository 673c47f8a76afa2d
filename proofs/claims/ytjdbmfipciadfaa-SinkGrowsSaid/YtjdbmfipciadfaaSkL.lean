/- The sink: the document's answer, in plain Lean. -/
import Derived.Test.YtjdbmfipciadfaaSkJ
import Derived.Test.YtjdbmfipciadfaaMa3

namespace Go.Proofs.Ytjdbmfipciadfaa.A
open Go Go.Pt

/-- What the document's sink keeps. -/
structure Rf where
  fence : Int
  out : List Rec
  vec : List Int
  done : List Int
  pre : List Txn

def rReach (w : Rf) (e : Int) : Int × Rf := if e < w.fence then (150, w) else if w.fence < e then (0, { w with fence := e, done := [], pre := [] }) else (0, w)
theorem f130_is {fuel : Nat} {e n : Int} {w : Rf} {a b : List AV} : f130 stdOps fuel e n w.fence a b (w.done.map iav) (w.pre.map Txn.av) =
    some (.v0 (rReach w e).1 (rReach w e).2.fence ((rReach w e).2.done.map iav) ((rReach w e).2.pre.map Txn.av)) := by
  unfold f130 rReach
  by_cases h1 : e < w.fence
  · rw [ifB_t (by simp [stdOps, h1]), if_pos h1]
  · rw [ifB_f (by simp [stdOps]; omega), if_neg h1]
    by_cases h2 : w.fence < e
    · rw [ifB_t (by simp [stdOps, h2]), if_pos h2]; rfl
    · rw [ifB_f (by simp [stdOps]; omega), if_neg h2]
def rFen (w : Rf) (e : Int) : Int × Rf := if posB e = true then rReach w e else (1, w)
theorem f87_is {fuel : Nat} {e n : Int} {w : Rf} {a b : List AV} : f87 stdOps fuel e n w.fence a b (w.done.map iav) (w.pre.map Txn.av) =
    some (.v0 (rFen w e).1 (rFen w e).2.fence ((rFen w e).2.done.map iav) ((rFen w e).2.pre.map Txn.av)) := by
  unfold f87 rFen
  rw [bindR_eq f82_is]
  dsimp only
  cases h : posB e with
  | false => rw [ifB_t (by simp [stdOps])]; rfl
  | true => rw [ifB_f (by simp [stdOps]), bindR_eq f130_is]; rfl

theorem f103_is {fuel : Nat} {l : List Int} {x : Int} (hf : l.length < fuel) (hl : l.length < 2 ^ 60) : f103 stdOps fuel (l.map iav) x = some (.v0 (decide (x ∈ l))) := by
  have h := idx_loop (l := l) (fun f i => f103_l0 stdOps fuel (l.map iav) x f (i : Int)) (fun y r => if y = x then some .x0 else r) (some .x1)
    (fun n => by rw [f103_l0, len_av, ifB_f (lss_f (by omega))])
    (fun n i h => by
      rw [f103_l0, inbR h, len_av, ifB_t (lss_t h), getI h, add1 (by omega)]
      by_cases e : l[i] = x
      · rw [ifB_t (by simp [stdOps, e]), if_pos e]
      · rw [ifB_f (by simp [stdOps, e]), if_neg e]) hf
  have e : ∀ l : List Int, l.foldr (fun y r => if y = x then some F103L0.x0 else r) (some F103L0.x1) = some (if x ∈ l then .x0 else .x1) := by
    intro l
    induction l with
    | nil => simp
    | cons y l ih =>
      rw [List.foldr_cons, ih]
      by_cases e : y = x
      · simp [e]
      · have : x ≠ y := fun h => e h.symm
        simp [e, this]
  rw [e] at h
  change f103_l0 stdOps fuel _ _ fuel 0 = _ at h
  unfold f103
  rw [bindR_eq h]
  by_cases e : x ∈ l <;> simp [e]

def rDone (w : Rf) (k : Int × Int) : Bool := decide (k.1 = w.fence ∧ 1 ≤ k.1 ∧ k.2 ∈ w.done)
theorem f109_is {fuel : Nat} {k1 k2 n : Int} {w : Rf} {a b q : List AV} (hf : w.done.length < fuel) (hl : w.done.length < 2 ^ 60) :
    f109 stdOps fuel k1 k2 n w.fence a b (w.done.map iav) q = some (.v0 (rDone w (k1, k2))) := by
  unfold f109 rDone
  have hc : stdOps.pick (stdOps.cmp .eql k1 w.fence) (stdOps.cmp .geq k1 1) false = decide (k1 = w.fence ∧ 1 ≤ k1) := by
    simp only [stdOps]
    by_cases h1 : k1 = w.fence
    · by_cases h2 : 1 ≤ k1 <;> simp [h1] <;> omega
    · simp [h1]
  rw [hc]
  by_cases h : k1 = w.fence ∧ 1 ≤ k1
  · rw [ifB_t (by simpa using h), bindR_eq (f103_is hf hl)]
    by_cases h3 : k2 ∈ w.done <;> simp [h, h3, stdOps] <;> omega
  · rw [ifB_f (by simpa using h)]
    have : ¬ (k1 = w.fence ∧ 1 ≤ k1 ∧ k2 ∈ w.done) := fun e => h ⟨e.1, e.2.1⟩
    simp [h, this, stdOps]

theorem f131_l0_is {x a1 a2 : Int} {a3 a4 a5 : List AV} {l : List Txn} (hl : l.length < 2 ^ 60) (fuel : Nat) : ∀ (d f i : Nat), i + d = l.length → d < f →
    (∃ j, ∃ h : j < l.length, (l.drop i).find? (fun u => decide (u.i = x)) = some l[j] ∧ f131_l0 stdOps fuel (l.map Txn.av) x a1 a2 a3 a4 a5 f i = some (.x0 j)) ∨
    ((l.drop i).find? (fun u => decide (u.i = x)) = none ∧ f131_l0 stdOps fuel (l.map Txn.av) x a1 a2 a3 a4 a5 f i = some .x1) := by
  intro d
  induction d with
  | zero =>
    intro f i hi hf
    obtain ⟨f, rfl⟩ : ∃ g, f = g + 1 := ⟨f - 1, by omega⟩
    exact .inr ⟨by rw [List.drop_of_length_le (by omega)]; rfl, by rw [f131_l0, len_av, ifB_f (lss_f (by omega))]⟩
  | succ d ih =>
    intro f i hi hf
    obtain ⟨f, rfl⟩ : ∃ g, f = g + 1 := ⟨f - 1, by omega⟩
    have hlt : i < l.length := by omega
    rw [f131_l0, inbR hlt, len_av, ifB_t (lss_t hlt), getT hlt, drop_all hlt, List.find?_cons, add1 (by omega)]
    by_cases e : l[i].i = x
    · exact .inl ⟨i, hlt, by simp [e], by rw [ifB_t (by simp [stdOps, e])]⟩
    · rw [ifB_f (by simp [stdOps, e])]
      simp only [e, decide_false]
      exact ih f (i + 1) (by omega) (by omega)
theorem f131_is {fuel : Nat} {x a1 a2 : Int} {a3 a4 a5 : List AV} {l : List Txn} (hf : l.length < fuel) (hl : l.length < 2 ^ 60) :
    (∃ j, ∃ h : j < l.length, l.find? (fun u => decide (u.i = x)) = some l[j] ∧ f131 stdOps fuel x a1 a2 a3 a4 a5 (l.map Txn.av) = some (.v0 j)) ∨
    (l.find? (fun u => decide (u.i = x)) = none ∧ f131 stdOps fuel x a1 a2 a3 a4 a5 (l.map Txn.av) = some (.v0 (-1))) := by
  unfold f131
  rcases f131_l0_is (x := x) (a1 := a1) (a2 := a2) (a3 := a3) (a4 := a4) (a5 := a5) hl fuel l.length fuel 0 (by omega) hf with ⟨j, h, h1, h2⟩ | ⟨h1, h2⟩
  · change f131_l0 stdOps fuel _ _ _ _ _ _ _ fuel 0 = _ at h2
    rw [List.drop_zero] at h1
    exact .inl ⟨j, h, h1, by rw [bindR_eq h2]⟩
  · change f131_l0 stdOps fuel _ _ _ _ _ _ _ fuel 0 = _ at h2
    rw [List.drop_zero] at h1
    exact .inr ⟨h1, by rw [bindR_eq h2]⟩

theorem f61_is {fuel : Nat} {t u : Txn} (hf : t.r.length < fuel ∧ t.v.length < fuel) (hl : t.r.length < 2 ^ 60 ∧ t.v.length < 2 ^ 60) :
    f61 stdOps fuel t.e t.i t.b (t.r.map Rec.av) (t.v.map iav) u.e u.i u.b (u.r.map Rec.av) (u.v.map iav) = some (.v0 (decide (t = u))) := by
  unfold f61
  by_cases h1 : t.e = u.e ∧ t.i = u.i ∧ t.b = u.b
  · obtain ⟨h1, h2, h3⟩ := h1
    rw [ifB_t (by simp [stdOps, h1, h2, h3]), bindR_eq (f84_is hf.1 hl.1)]
    dsimp only
    by_cases h4 : t.r = u.r
    · rw [ifB_t (by simp [h4]), bindR_eq (f85_is hf.2 hl.2)]
      by_cases h5 : t.v = u.v
      · have : t = u := Txn.ext' h1 h2 h3 h4 h5
        simp [this]
      · have : t ≠ u := fun e => h5 (by rw [e])
        simp [h5, this]
    · have : t ≠ u := fun e => h4 (by rw [e])
      rw [ifB_f (by simp [h4])]; simp [this]
  · have : t ≠ u := fun e => h1 (by rw [e]; exact ⟨rfl, rfl, rfl⟩)
    rw [ifB_f (by
      simp only [stdOps]
      by_cases a1 : t.e = u.e <;> by_cases a2 : t.i = u.i <;> by_cases a3 : t.b = u.b <;> simp_all)]
    simp [this]

theorem f106_is {fuel : Nat} {a b : Int} {out : List Rec} {v d q : List AV} : f106 stdOps fuel a b (out.map Rec.av) v d q = some (.v0 out.length) := by
  unfold f106; rw [len_av]
theorem f132_l0_is {a5 a6 a0 a1 : Int} {a8 a9 a10 a4 : List AV} {b : Nat} {out r : List Rec} (hb : b ≤ 4096) (hr : r.length ≤ 4096) (ho : out.length ≤ b + r.length) (fuel : Nat) : ∀ (d f j : Nat), j + d = r.length → d < f →
    f132_l0 stdOps fuel (r.map Rec.av) a5 a6 (out.map Rec.av) a8 a9 a10 (b : Int) a0 a1 a4 f j = some (if out.drop (b + j) = (r.drop j).take (out.length - (b + j)) then .x1 else .x0) := by
  intro d
  induction d with
  | zero =>
    intro f i hi hf
    obtain ⟨f, rfl⟩ : ∃ g, f = g + 1 := ⟨f - 1, by omega⟩
    rw [f132_l0, len_av, ifB_f (lss_f (by omega)), List.drop_of_length_le (by omega), List.drop_of_length_le (by omega)]; simp
  | succ d ih =>
    intro f j hi hf
    obtain ⟨f, rfl⟩ : ∃ g, f = g + 1 := ⟨f - 1, by omega⟩
    have hlt : j < r.length := by omega
    have hsum : stdOps.ar .add .i64 (b : Int) (j : Int) = ((b + j : Nat) : Int) := by simp only [stdOps]; rw [wr_i64 (by omega) (by omega)]; omega
    rw [f132_l0, len_av, ifB_t (lss_t hlt), bindR_eq f106_is]
    dsimp only
    rw [hsum]
    by_cases h : b + j < out.length
    · rw [ifB_t (by simp [stdOps]; omega), inbR h, getR h, ← len_av (f := Rec.av), inbR hlt, getR hlt, drop_all h, drop_all hlt, show out.length - (b + j) = out.length - (b + (j + 1)) + 1 by omega, List.take_succ_cons]
      simp only [List.cons.injEq]
      by_cases e : out[b + j] = r[j]
      · rw [ifB_f (by simp [stdOps, e]), add1 (by omega), ih f (j + 1) (by omega) (by omega)]
        simp [e, Nat.add_assoc]
      · have hne : ¬ (out[b + j].k = r[j].k ∧ out[b + j].v = r[j].v) := fun h' => e (by cases ha : out[b + j]; cases hb : r[j]; rw [ha, hb] at h'; simp only at h'; rw [h'.1, h'.2])
        rw [ifB_t (by
          simp only [stdOps]
          by_cases h3 : out[b + j].k = r[j].k
          · have : ¬ out[b + j].v = r[j].v := fun e => hne ⟨h3, e⟩
            simp [h3, this]
          · simp [h3])]
        simp [e]
    · rw [ifB_f (by simp [stdOps]; omega), List.drop_of_length_le (by omega), show out.length - (b + j) = 0 by omega]; simp
theorem f132_is {fuel : Nat} {t : Txn} {n fe : Int} {out : List Rec} {vec : List Int} {d q : List AV} (ht : Small t) (_ho : out.length ≤ 4096) (hf : t.v.length < fuel ∧ 4097 < fuel) (hl : t.v.length < 2 ^ 60) :
    f132 stdOps fuel t.e t.i t.b (t.r.map Rec.av) (t.v.map iav) n fe (out.map Rec.av) (vec.map iav) d q = some (.v0 (suitsE out vec t)) := by
  obtain ⟨hb0, hb1, hr⟩ := ht
  have hbn : t.b = (t.b.toNat : Int) := by omega
  unfold f132 suitsE
  have hsum : stdOps.ar .add .i64 t.b (t.r.length : Int) = t.b + t.r.length := by simp only [stdOps]; exact wr_i64 (by omega) (by omega)
  rw [len_av, hsum, bindR_eq f106_is]
  dsimp only
  by_cases h1 : (out.length : Int) < t.b
  · rw [ifB_t (by simp [stdOps, h1]), if_pos h1]
  rw [ifB_f (by simp [stdOps]; omega), if_neg h1, bindR_eq (f29_is hf.1 hl)]
  dsimp only
  cases h2 : abvB t.v vec with
  | false => rw [ifB_f (by simp [stdOps]), if_pos (.inl rfl)]
  | true =>
    rw [ifB_t (by simp [stdOps]), bindR_eq f106_is]
    dsimp only
    by_cases h3 : t.b + t.r.length < out.length
    · rw [ifB_t (by simp [stdOps, h3]), if_pos (.inr h3)]
    · rw [ifB_f (by simp [stdOps]; omega), if_neg (by simp; omega)]
      have h := f132_l0_is (a5 := n) (a6 := fe) (a0 := t.e) (a1 := t.i) (a8 := vec.map iav) (a9 := d) (a10 := q) (a4 := t.v.map iav) (b := t.b.toNat) (out := out) (r := t.r) (by omega) hr (by omega) fuel t.r.length fuel 0 (by omega) (by omega)
      rw [← hbn, Nat.add_zero, List.drop_zero] at h
      change f132_l0 stdOps fuel _ _ _ _ _ _ _ _ _ _ _ fuel 0 = _ at h
      rw [bindR_eq h]
      by_cases h4 : out.drop t.b.toNat = t.r.take (out.length - t.b.toNat)
      · rw [if_pos h4, if_neg (by simp [h4])]
        dsimp only
        by_cases h5 : 4096 < t.b + t.r.length
        · rw [ifB_t (by simp [stdOps, h5]), if_pos h5]
        · rw [ifB_f (by simp [stdOps]; omega), if_neg h5]
      · rw [if_neg h4, if_pos h4]
end Go.Proofs.Ytjdbmfipciadfaa.A
