/- The sink: the document's answer, in plain Lean. -/
import Derived.Test.YtjdbmfipciadfaaTpC
import Derived.Test.YtjdbmfipciadfaaMa3

namespace Go.Proofs.Ytjdbmfipciadfaa.A
open Go Go.Pt

/-- What the document's sink keeps. -/
structure Rf where
  fence : Int
  out : List Rec
  vec : List Int
  done : List Int
  pre : List Txn

def rReach (w : Rf) (e : Int) : Int × Rf := if e < w.fence then (150, w) else if w.fence < e then (0, { w with fence := e, done := [], pre := [] }) else (0, w)
theorem f130_is {fuel : Nat} {e n : Int} {w : Rf} {a b : List AV} : f130 stdOps fuel e n w.fence a b (w.done.map iav) (w.pre.map Txn.av) =
    some (.v0 (rReach w e).1 (rReach w e).2.fence ((rReach w e).2.done.map iav) ((rReach w e).2.pre.map Txn.av)) := by
  unfold f130 rReach
  by_cases h1 : e < w.fence
  · rw [ifB_t (by simp [stdOps, h1]), if_pos h1]
  · rw [ifB_f (by simp [stdOps]; omega), if_neg h1]
    by_cases h2 : w.fence < e
    · rw [ifB_t (by simp [stdOps, h2]), if_pos h2]; rfl
    · rw [ifB_f (by simp [stdOps]; omega), if_neg h2]
def rFen (w : Rf) (e : Int) : Int × Rf := if posB e = true then rReach w e else (1, w)
theorem f87_is {fuel : Nat} {e n : Int} {w : Rf} {a b : List AV} : f87 stdOps fuel e n w.fence a b (w.done.map iav) (w.pre.map Txn.av) =
    some (.v0 (rFen w e).1 (rFen w e).2.fence ((rFen w e).2.done.map iav) ((rFen w e).2.pre.map Txn.av)) := by
  unfold f87 rFen
  rw [bindR_eq f82_is]
  dsimp only
  cases h : posB e with
  | false => rw [ifB_t (by simp [stdOps])]; rfl
  | true => rw [ifB_f (by simp [stdOps]), bindR_eq f130_is]; rfl

theorem f103_is {fuel : Nat} {l : List Int} {x : Int} (hf : l.length < fuel) (hl : l.length < 2 ^ 60) : f103 stdOps fuel (l.map iav) x = some (.v0 (decide (x ∈ l))) := by
  have h := idx_loop (l := l) (fun f i => f103_l0 stdOps fuel (l.map iav) x f (i : Int)) (fun y r => if y = x then some .x0 else r) (some .x1)
    (fun n => by rw [f103_l0, len_av, ifB_f (lss_f (by omega))])
    (fun n i h => by
      rw [f103_l0, inbR h, len_av, ifB_t (lss_t h), getI h, add1 (by omega)]
      by_cases e : l[i] = x
      · rw [ifB_t (by simp [stdOps, e]), if_pos e]
      · rw [ifB_f (by simp [stdOps, e]), if_neg e]) hf
  have e : ∀ l : List Int, l.foldr (fun y r => if y = x then some F103L0.x0 else r) (some F103L0.x1) = some (if x ∈ l then .x0 else .x1) := by
    intro l
    induction l with
    | nil => simp
    | cons y l ih =>
      rw [List.foldr_cons, ih]
      by_cases e : y = x
      · simp [e]
      · have : x ≠ y := fun h => e h.symm
        simp [e, this]
  rw [e] at h
  change f103_l0 stdOps fuel _ _ fuel 0 = _ at h
  unfold f103
  rw [bindR_eq h]
  by_cases e : x ∈ l <;> simp [e]

def rDone (w : Rf) (k : Int × Int) : Bool := decide (k.1 = w.fence ∧ 1 ≤ k.1 ∧ k.2 ∈ w.done)
theorem f109_is {fuel : Nat} {k1 k2 n : Int} {w : Rf} {a b q : List AV} (hf : w.done.length < fuel) (hl : w.done.length < 2 ^ 60) :
    f109 stdOps fuel k1 k2 n w.fence a b (w.done.map iav) q = some (.v0 (rDone w (k1, k2))) := by
  unfold f109 rDone
  have hc : stdOps.pick (stdOps.cmp .eql k1 w.fence) (stdOps.cmp .geq k1 1) false = decide (k1 = w.fence ∧ 1 ≤ k1) := by
    simp only [stdOps]
    by_cases h1 : k1 = w.fence
    · by_cases h2 : 1 ≤ k1 <;> simp [h1] <;> omega
    · simp [h1]
  rw [hc]
  by_cases h : k1 = w.fence ∧ 1 ≤ k1
  · rw [ifB_t (by simpa using h), bindR_eq (f103_is hf hl)]
    by_cases h3 : k2 ∈ w.done <;> simp [h, h3, stdOps] <;> omega
  · rw [ifB_f (by simpa using h)]
    have : ¬ (k1 = w.fence ∧ 1 ≤ k1 ∧ k2 ∈ w.done) := fun e => h ⟨e.1, e.2.1⟩
    simp [h, this, stdOps]

theorem f131_l0_is {x a1 a2 : Int} {a3 a4 a5 : List AV} {l : List Txn} (hl : l.length < 2 ^ 60) (fuel : Nat) : ∀ (d f i : Nat), i + d = l.length → d < f →
    (∃ j, ∃ h : j < l.length, (l.drop i).find? (fun u => decide (u.i = x)) = some l[j] ∧ f131_l0 stdOps fuel (l.map Txn.av) x a1 a2 a3 a4 a5 f i = some (.x0 j)) ∨
    ((l.drop i).find? (fun u => decide (u.i = x)) = none ∧ f131_l0 stdOps fuel (l.map Txn.av) x a1 a2 a3 a4 a5 f i = some .x1) := by
  intro d
  induction d with
  | zero =>
    intro f i hi hf
    obtain ⟨f, rfl⟩ : ∃ g, f = g + 1 := ⟨f - 1, by omega⟩
    exact .inr ⟨by rw [List.drop_of_length_le (by omega)]; rfl, by rw [f131_l0, len_av, ifB_f (lss_f (by omega))]⟩
  | succ d ih =>
    intro f i hi hf
    obtain ⟨f, rfl⟩ : ∃ g, f = g + 1 := ⟨f - 1, by omega⟩
    have hlt : i < l.length := by omega
    rw [f131_l0, inbR hlt, len_av, ifB_t (lss_t hlt), getT hlt, drop_all hlt, List.find?_cons, add1 (by omega)]
    by_cases e : l[i].i = x
    · exact .inl ⟨i, hlt, by simp [e], by rw [ifB_t (by simp [stdOps, e])]⟩
    · rw [ifB_f (by simp [stdOps, e])]
      simp only [e, decide_false]
      exact ih f (i + 1) (by omega) (by omega)
theorem f131_is {fuel : Nat} {x a1 a2 : Int} {a3 a4 a5 : List AV} {l : List Txn} (hf : l.length < fuel) (hl : l.length < 2 ^ 60) :
    (∃ j, ∃ h : j < l.length, l.find? (fun u => decide (u.i = x)) = some l[j] ∧ f131 stdOps fuel x a1 a2 a3 a4 a5 (l.map Txn.av) = some (.v0 j)) ∨
    (l.find? (fun u => decide (u.i = x)) = none ∧ f131 stdOps fuel x a1 a2 a3 a4 a5 (l.map Txn.av) = some (.v0 (-1))) := by
  unfold f131
  rcases f131_l0_is (x := x) (a1 := a1) (a2 := a2) (a3 := a3) (a4 := a4) (a5 := a5) hl fuel l.length fuel 0 (by omega) hf with ⟨j, h, h1, h2⟩ | ⟨h1, h2⟩
  · change f131_l0 stdOps fuel _ _ _ _ _ _ _ fuel 0 = _ at h2
    rw [List.drop_zero] at h1
    exact .inl ⟨j, h, h1, by rw [bindR_eq h2]⟩
  · change f131_l0 stdOps fuel _ _ _ _ _ _ _ fuel 0 = _ at h2
    rw [List.drop_zero] at h1
    exact .inr ⟨h1, by rw [bindR_eq h2]⟩

theorem f61_is {fuel : Nat} {t u : Txn} (hf : t.r.length < fuel ∧ t.v.length < fuel) (hl : t.r.length < 2 ^ 60 ∧ t.v.length < 2 ^ 60) :
    f61 stdOps fuel t.e t.i t.b (t.r.map Rec.av) (t.v.map iav) u.e u.i u.b (u.r.map Rec.av) (u.v.map iav) = some (.v0 (decide (t = u))) := by
  unfold f61
  by_cases h1 : t.e = u.e ∧ t.i = u.i ∧ t.b = u.b
  · obtain ⟨h1, h2, h3⟩ := h1
    rw [ifB_t (by simp [stdOps, h1, h2, h3]), bindR_eq (f84_is hf.1 hl.1)]
    dsimp only
    by_cases h4 : t.r = u.r
    · rw [ifB_t (by simp [h4]), bindR_eq (f85_is hf.2 hl.2)]
      by_cases h5 : t.v = u.v
      · have : t = u := Txn.ext' h1 h2 h3 h4 h5
        simp [this]
      · have : t ≠ u := fun e => h5 (by rw [e])
        simp [h5, this]
    · have : t ≠ u := fun e => h4 (by rw [e])
      rw [ifB_f (by simp [h4])]; simp [this]
  · have : t ≠ u := fun e => h1 (by rw [e]; exact ⟨rfl, rfl, rfl⟩)
    rw [ifB_f (by
      simp only [stdOps]
      by_cases a1 : t.e = u.e <;> by_cases a2 : t.i = u.i <;> by_cases a3 : t.b = u.b <;> simp_all)]
    simp [this]

theorem f106_is {fuel : Nat} {a b : Int} {out : List Rec} {v d q : List AV} : f106 stdOps fuel a b (out.map Rec.av) v d q = some (.v0 out.length) := by
  unfold f106; rw [len_av]
theorem f132_l0_is {a5 a6 a0 a1 : Int} {a8 a9 a10 a4 : List AV} {b : Nat} {out r : List Rec} (hb : b ≤ 4096) (hr : r.length ≤ 4096) (ho : out.length ≤ b + r.length) (fuel : Nat) : ∀ (d f j : Nat), j + d = r.length → d < f →
    f132_l0 stdOps fuel (r.map Rec.av) a5 a6 (out.map Rec.av) a8 a9 a10 (b : Int) a0 a1 a4 f j = some (if out.drop (b + j) = (r.drop j).take (out.length - (b + j)) then .x1 else .x0) := by
  intro d
  induction d with
  | zero =>
    intro f i hi hf
    obtain ⟨f, rfl⟩ : ∃ g, f = g + 1 := ⟨f - 1, by omega⟩
    rw [f132_l0, len_av, ifB_f (lss_f (by omega)), List.drop_of_length_le (by omega), List.drop_of_length_le (by omega)]; simp
  | succ d ih =>
    intro f j hi hf
    obtain ⟨f, rfl⟩ : ∃ g, f = g + 1 := ⟨f - 1, by omega⟩
    have hlt : j < r.length := by omega
    have hsum : stdOps.ar .add .i64 (b : Int) (j : Int) = ((b + j : Nat) : Int) := by simp only [stdOps]; rw [wr_i64 (by omega) (by omega)]; omega
    rw [f132_l0, len_av, ifB_t (lss_t hlt), bindR_eq f106_is]
    dsimp only
    rw [hsum]
    by_cases h : b + j < out.length
    · rw [ifB_t (by simp [stdOps]; omega), inbR h, getR h, ← len_av (f := Rec.av), inbR hlt, getR hlt, drop_all h, drop_all hlt, show out.length - (b + j) = out.length - (b + (j + 1)) + 1 by omega, List.take_succ_cons]
      simp only [List.cons.injEq]
      by_cases e : out[b + j] = r[j]
      · rw [ifB_f (by simp [stdOps, e]), add1 (by omega), ih f (j + 1) (by omega) (by omega)]
        simp [e, Nat.add_assoc]
      · have hne : ¬ (out[b + j].k = r[j].k ∧ out[b + j].v = r[j].v) := fun h' => e (by cases ha : out[b + j]; cases hb : r[j]; rw [ha, hb] at h'; simp only at h'; rw [h'.1, h'.2])
        rw [ifB_t (by
          simp only [stdOps]
          by_cases h3 : out[b + j].k = r[j].k
          · have : ¬ out[b + j].v = r[j].v := fun e => hne ⟨h3, e⟩
            simp [h3, this]
          · simp [h3])]
        simp [e]
    · rw [ifB_f (by simp [stdOps]; omega), List.drop_of_length_le (by omega), show out.length - (b + j) = 0 by omega]; simp
theorem f132_is {fuel : Nat} {t : Txn} {n fe : Int} {out : List Rec} {vec : List Int} {d q : List AV} (ht : Small t) (_ho : out.length ≤ 4096) (hf : t.v.length < fuel ∧ 4097 < fuel) (hl : t.v.length < 2 ^ 60) :
    f132 stdOps fuel t.e t.i t.b (t.r.map Rec.av) (t.v.map iav) n fe (out.map Rec.av) (vec.map iav) d q = some (.v0 (suitsE out vec t)) := by
  obtain ⟨hb0, hb1, hr⟩ := ht
  have hbn : t.b = (t.b.toNat : Int) := by omega
  unfold f132 suitsE
  have hsum : stdOps.ar .add .i64 t.b (t.r.length : Int) = t.b + t.r.length := by simp only [stdOps]; exact wr_i64 (by omega) (by omega)
  rw [len_av, hsum, bindR_eq f106_is]
  dsimp only
  by_cases h1 : (out.length : Int) < t.b
  · rw [ifB_t (by simp [stdOps, h1]), if_pos h1]
  rw [ifB_f (by simp [stdOps]; omega), if_neg h1, bindR_eq (f29_is hf.1 hl)]
  dsimp only
  cases h2 : abvB t.v vec with
  | false => rw [ifB_f (by simp [stdOps]), if_pos (.inl rfl)]
  | true =>
    rw [ifB_t (by simp [stdOps]), bindR_eq f106_is]
    dsimp only
    by_cases h3 : t.b + t.r.length < out.length
    · rw [ifB_t (by simp [stdOps, h3]), if_pos (.inr h3)]
    · rw [ifB_f (by simp [stdOps]; omega), if_neg (by simp; omega)]
      have h := f132_l0_is (a5 := n) (a6 := fe) (a0 := t.e) (a1 := t.i) (a8 := vec.map iav) (a9 := d) (a10 := q) (a4 := t.v.map iav) (b := t.b.toNat) (out := out) (r := t.r) (by omega) hr (by omega) fuel t.r.length fuel 0 (by omega) (by omega)
      rw [← hbn, Nat.add_zero, List.drop_zero] at h
      change f132_l0 stdOps fuel _ _ _ _ _ _ _ _ _ _ _ fuel 0 = _ at h
      rw [bindR_eq h]
      by_cases h4 : out.drop t.b.toNat = t.r.take (out.length - t.b.toNat)
      · rw [if_pos h4, if_neg (by simp [h4])]
        dsimp only
        by_cases h5 : 4096 < t.b + t.r.length
        · rw [ifB_t (by simp [stdOps, h5]), if_pos h5]
        · rw [ifB_f (by simp [stdOps]; omega), if_neg h5]
      · rw [if_neg h4, if_pos h4]

/-- What is asked of the document's sink, that no slice is too long. -/
structure RI (n : Int) (w : Rf) : Prop where
  out : w.out.length ≤ 4096
  pre : w.pre.length ≤ 8 ∧ ∀ t ∈ w.pre, mayB n t = true
  done : w.done.length < 2 ^ 42
theorem RI.reach {n : Int} {w : Rf} (h : RI n w) (e : Int) : RI n (rReach w e).2 := by
  unfold rReach
  split
  · exact h
  · split
    · exact ⟨h.out, ⟨by simp, by simp⟩, by simp⟩
    · exact h
theorem rReach_done {w : Rf} {e : Int} : (rReach w e).2.done.length ≤ w.done.length ∧ (rReach w e).2.out = w.out ∧ (rReach w e).2.vec = w.vec := by
  unfold rReach
  split
  · exact ⟨Nat.le_refl _, rfl, rfl⟩
  · split
    · exact ⟨by simp, rfl, rfl⟩
    · exact ⟨Nat.le_refl _, rfl, rfl⟩

theorem room_ok {x y : List AV} {k : Nat} (h : (x.length + y.length) * k ≤ 2 ^ 47) : stdOps.room x y k := h
theorem f104_is {fuel : Nat} {t : Txn} (hr : t.r.length ≤ 2 ^ 40) (hv : t.v.length ≤ 2 ^ 40) : f104 stdOps fuel t.e t.i t.b (t.r.map Rec.av) (t.v.map iav) = some (.v0 t.e t.i t.b (t.r.map Rec.av) (t.v.map iav)) := by
  unfold f104
  rw [req_eq _ (room_ok (by simp only [List.length_nil, List.length_map]; omega)), req_eq _ (room_ok (by simp only [List.length_nil, List.length_map]; omega))]
  rfl

/-! A place in a row that rises. -/
theorem take_tw {α : Type} {p : α → Bool} : ∀ {l : List α}, l.take (l.takeWhile p).length = l.takeWhile p
  | [] => rfl
  | x :: l => by
    rw [List.takeWhile_cons]
    split
    · rw [List.length_cons, List.take_succ_cons, take_tw]
    · rfl
theorem drop_tw {α : Type} {p : α → Bool} : ∀ {l : List α}, l.drop (l.takeWhile p).length = l.dropWhile p
  | [] => rfl
  | x :: l => by
    rw [List.takeWhile_cons, List.dropWhile_cons]
    split
    · rw [List.length_cons, List.drop_succ_cons, drop_tw]
    · rfl
theorem tw_le {α : Type} {p : α → Bool} {l : List α} : (l.takeWhile p).length ≤ l.length := by
  have := congrArg List.length (List.takeWhile_append_dropWhile (p := p) (l := l))
  rw [List.length_append] at this
  omega
def rIns (l : List Txn) (t : Txn) : List Txn := (l.takeWhile fun u => decide (u.i < t.i)) ++ t :: l.dropWhile fun u => decide (u.i < t.i)
def iIns (l : List Int) (x : Int) : List Int := (l.takeWhile fun u => decide (u < x)) ++ x :: l.dropWhile fun u => decide (u < x)
theorem f88_l0_is {a0 a1 a2 a5 r13 : Int} {a7 a8 r14 a3 a4 : List AV} {l : List Txn} (hl : l.length < 2 ^ 60) (fuel : Nat) : ∀ (d f i : Nat), i + d = l.length → d < f →
    f88_l0 stdOps fuel (l.map Txn.av) a1 a5 r13 a7 a8 r14 a0 a2 a3 a4 f i = some (.x0 ((i + ((l.drop i).takeWhile fun u => decide (u.i < a1)).length : Nat) : Int)) := by
  intro d
  induction d with
  | zero =>
    intro f i hi hf
    obtain ⟨f, rfl⟩ : ∃ g, f = g + 1 := ⟨f - 1, by omega⟩
    rw [f88_l0, len_av, ifB_f (lss_f (by omega)), List.drop_of_length_le (by omega)]; rfl
  | succ d ih =>
    intro f i hi hf
    obtain ⟨f, rfl⟩ : ∃ g, f = g + 1 := ⟨f - 1, by omega⟩
    have hlt : i < l.length := by omega
    rw [f88_l0, inbR hlt, len_av, ifB_t (lss_t hlt), getT hlt, drop_all hlt, List.takeWhile_cons]
    by_cases e : l[i].i < a1
    · rw [ifB_t (by simp [stdOps, e]; omega), add1 (by omega), ih f (i + 1) (by omega) (by omega)]
      simp only [e, decide_true, if_true, List.length_cons]
      rw [show i + 1 + (List.takeWhile (fun u => decide (u.i < a1)) (List.drop (i + 1) l)).length = i + ((List.takeWhile (fun u => decide (u.i < a1)) (List.drop (i + 1) l)).length + 1) by omega]
    · rw [ifB_f (by simp [stdOps, e])]
      simp [e]
theorem f89_l0_is {a1 a2 r11 r22 v18 a0 : Int} {a4 v19 v20 r23 : List AV} {l : List Int} (hl : l.length < 2 ^ 60) (fuel : Nat) : ∀ (d f i : Nat), i + d = l.length → d < f →
    f89_l0 stdOps fuel (l.map iav) a1 a2 r11 a4 v19 r22 v18 v20 r23 a0 f i = some (.x0 ((i + ((l.drop i).takeWhile fun u => decide (u < a1)).length : Nat) : Int)) := by
  intro d
  induction d with
  | zero =>
    intro f i hi hf
    obtain ⟨f, rfl⟩ : ∃ g, f = g + 1 := ⟨f - 1, by omega⟩
    rw [f89_l0, len_av, ifB_f (lss_f (by omega)), List.drop_of_length_le (by omega)]; rfl
  | succ d ih =>
    intro f i hi hf
    obtain ⟨f, rfl⟩ : ∃ g, f = g + 1 := ⟨f - 1, by omega⟩
    have hlt : i < l.length := by omega
    rw [f89_l0, inbR hlt, len_av, ifB_t (lss_t hlt), getI hlt, drop_all hlt, List.takeWhile_cons]
    by_cases e : l[i] < a1
    · rw [ifB_t (by simp [stdOps, e]; omega), add1 (by omega), ih f (i + 1) (by omega) (by omega)]
      simp only [e, decide_true, if_true, List.length_cons]
      rw [show i + 1 + (List.takeWhile (fun u => decide (u < a1)) (List.drop (i + 1) l)).length = i + ((List.takeWhile (fun u => decide (u < a1)) (List.drop (i + 1) l)).length + 1) by omega]
    · rw [ifB_f (by simp [stdOps, e])]
      simp [e]

/-! Without those of a number. -/
def rDrop (l : List Txn) (x : Int) : List Txn := l.filter fun u => decide (u.i ≠ x)
noncomputable def dropG {R : Type} (x : Int) (t : Txn) (s : Nat × List AV) (k : Nat × List AV → Option R) : Option R :=
  if t.i = x then k s else req (stdOps.room s.2 [t.av] 72) (k (stdOps.padd s.1 [t.av], stdOps.apnd s.2 [t.av]))
theorem dropG_t {R : Type} {x : Int} {t : Txn} {s : Nat × List AV} {k : Nat × List AV → Option R} (e : t.i = x) : dropG x t s k = k s := if_pos e
theorem dropG_f {R : Type} {x : Int} {t : Txn} {s : Nat × List AV} {k : Nat × List AV → Option R} (e : t.i ≠ x) : dropG x t s k = req (stdOps.room s.2 [t.av] 72) (k (stdOps.padd s.1 [t.av], stdOps.apnd s.2 [t.av])) := if_neg e
theorem fold_drop {R : Type} {x : Int} {mk : List AV → Nat → R} : ∀ (l : List Txn) (s : Nat × List AV), s.2.length + l.length ≤ 2 ^ 30 → ∃ p, foldK (dropG x) (fun s => some (mk s.2 s.1)) l s = some (mk (s.2 ++ (rDrop l x).map Txn.av) p)
  | [], s, _ => ⟨s.1, by simp [foldK, rDrop]⟩
  | t :: l, s, h => by
    rw [foldK]
    simp only [List.length_cons] at h
    by_cases e : t.i = x
    · rw [dropG_t e]
      obtain ⟨p, hp⟩ := fold_drop (mk := mk) l s (by omega)
      exact ⟨p, by rw [hp]; simp [rDrop, e]⟩
    · rw [dropG_f e, req_eq _ (room_ok (by simp only [List.length_cons, List.length_nil]; omega))]
      obtain ⟨p, hp⟩ := fold_drop (mk := mk) l (stdOps.padd s.1 [t.av], stdOps.apnd s.2 [t.av]) (by simp [stdOps]; omega)
      exact ⟨p, by rw [hp]; simp [rDrop, e, stdOps]⟩
theorem f133_is {fuel a0 : Nat} {x a2 a3 : Int} {a4 a5 a6 : List AV} {l : List Txn} (hf : l.length < fuel) (hl : l.length ≤ 2 ^ 20) : f133 stdOps fuel a0 x a2 a3 a4 a5 a6 (l.map Txn.av) = some (.v0 ((rDrop l x).map Txn.av)) := by
  have h := idx_loopS (l := l) (fun f i (s : Nat × List AV) => f133_l0 stdOps fuel (l.map Txn.av) x a2 a3 a4 a0 a5 a6 f s.1 s.2 (i : Int)) (dropG x) (fun s => some (.x0 s.2 s.1))
    (fun n s => by rw [f133_l0, len_av, ifB_f (lss_f (by omega))])
    (fun n i s h => by
      rw [f133_l0, inbR h, len_av, ifB_t (lss_t h), getT h, add1 (by omega)]
      by_cases e : l[i].i = x
      · rw [ifB_f (by simp [stdOps, e]), dropG_t e]
      · rw [ifB_t (by simp [stdOps, e]), dropG_f e, ← len_av (f := Txn.av), inbR h, getT h]
        rfl) fuel 0 (0, []) (Nat.zero_le _) (by omega)
  obtain ⟨p, hp⟩ := fold_drop (x := x) (mk := F133L0.x0) l (0, []) (by simp; omega)
  rw [List.drop_zero, hp] at h
  change f133_l0 stdOps fuel _ _ _ _ _ _ _ _ fuel 0 [] 0 = _ at h
  unfold f133
  rw [bindR_eq h]
  simp
theorem f133_1_is {fuel : Nat} {x a2 a3 : Int} {a4 a5 a6 : List AV} {l : List Txn} (hf : l.length < fuel) (hl : l.length ≤ 2 ^ 20) : f133_1 stdOps fuel x a2 a3 a4 a5 a6 (l.map Txn.av) = some (.v0 ((rDrop l x).map Txn.av)) := by
  have h := idx_loopS (l := l) (fun f i (s : Nat × List AV) => f133_1_l0 stdOps fuel (l.map Txn.av) x a2 a3 a4 a5 a6 f s.1 s.2 (i : Int)) (dropG x) (fun s => some (.x0 s.2 s.1))
    (fun n s => by rw [f133_1_l0, len_av, ifB_f (lss_f (by omega))])
    (fun n i s h => by
      rw [f133_1_l0, inbR h, len_av, ifB_t (lss_t h), getT h, add1 (by omega)]
      by_cases e : l[i].i = x
      · rw [ifB_f (by simp [stdOps, e]), dropG_t e]
      · rw [ifB_t (by simp [stdOps, e]), dropG_f e, ← len_av (f := Txn.av), inbR h, getT h]
        rfl) fuel 0 (0, []) (Nat.zero_le _) (by omega)
  obtain ⟨p, hp⟩ := fold_drop (x := x) (mk := F133_1L0.x0) l (0, []) (by simp; omega)
  rw [List.drop_zero, hp] at h
  change f133_1_l0 stdOps fuel _ _ _ _ _ _ _ fuel 0 [] 0 = _ at h
  unfold f133_1
  rw [bindR_eq h]
  simp

/-! The calls. -/
def rPreS (r : Rf) (t : Txn) : Int × Rf :=
  if rDone r (t.e, t.i) = true then (0, r) else
  match r.pre.find? (fun u => decide (u.i = t.i)) with
  | some u => (if u = t then 0 else 5, r)
  | none => if suitsE r.out r.vec t ≠ 0 then (suitsE r.out r.vec t, r) else if 8 ≤ r.pre.length then (6, r) else (0, { r with pre := rIns r.pre t })
def rPre (n : Int) (w : Rf) (t : Txn) : Int × Rf :=
  if mayB n t = false then (1, w) else if (rReach w t.e).1 ≠ 0 then rReach w t.e else rPreS (rReach w t.e).2 t
theorem f88_is {fuel : Nat} {n : Int} {w : Rf} {t : Txn} (hi : RI n w) (hn : n ≤ 4) (hf : t.v.length < fuel ∧ 4097 < fuel ∧ w.done.length < fuel) (hl : t.v.length < 2 ^ 60) :
    f88 stdOps fuel t.e t.i t.b (t.r.map Rec.av) (t.v.map iav) n w.fence (w.out.map Rec.av) (w.vec.map iav) (w.done.map iav) (w.pre.map Txn.av) =
      some (.v0 (rPre n w t).1 (rPre n w t).2.fence ((rPre n w t).2.done.map iav) ((rPre n w t).2.pre.map Txn.av)) := by
  unfold f88 rPre
  rw [bindR_eq (f21_is hf.1 hl)]
  dsimp only
  cases hm : mayB n t with
  | false => rw [ifB_t (by simp [stdOps]), if_pos rfl]
  | true =>
    have hs := mayB_small hm
    have hv := cntB_len (mayB_cnt hm)
    rw [ifB_f (by simp [stdOps]), if_neg (by simp), bindR_eq f130_is]
    dsimp only
    have hir := hi.reach t.e
    obtain ⟨hd, ho, hvc⟩ := rReach_done (w := w) (e := t.e)
    by_cases h1 : (rReach w t.e).1 = 0
    · rw [ifB_f (by simp [stdOps, h1]), if_neg (by simp [h1]), ← ho, ← hvc]
      generalize rReach w t.e = q at *
      obtain ⟨q1, r⟩ := q
      dsimp only at *
      have hdl := hir.done
      have hpl := hir.pre.1
      rw [bindR_eq (f109_is (by omega) (by omega))]
      dsimp only
      unfold rPreS
      cases hdd : rDone r (t.e, t.i) with
      | true => rw [ifB_t rfl, if_pos rfl]
      | false =>
        rw [ifB_f rfl, if_neg (by simp)]
        rcases f131_is (fuel := fuel) (x := t.i) (a1 := n) (a2 := r.fence) (a3 := r.out.map Rec.av) (a4 := r.vec.map iav) (a5 := r.done.map iav) (l := r.pre) (by omega) (by omega) with ⟨j, hj, h2, h3⟩ | ⟨h2, h3⟩
        · rw [bindR_eq h3, h2]
          dsimp only
          have hu := hir.pre.2 r.pre[j] (List.getElem_mem hj)
          have hul := cntB_len (mayB_cnt hu)
          have hus := (mayB_small hu).2.2
          rw [ifB_t (by simp [stdOps]), inbR hj, getT hj, bindR_eq (f61_is ⟨by omega, by omega⟩ ⟨by omega, by omega⟩)]
          dsimp only
          by_cases he : r.pre[j] = t
          · rw [ifB_t (by simp [he]), if_pos he]
          · rw [ifB_f (by simp [he]), if_neg he]
        · rw [bindR_eq h3, h2]
          dsimp only
          rw [ifB_f (by simp [stdOps]), bindR_eq (f132_is hs hir.out ⟨hf.1, hf.2.1⟩ hl)]
          dsimp only
          by_cases hc : suitsE r.out r.vec t = 0
          · rw [ifB_f (by simp [stdOps, hc]), if_neg (by simp [hc]), len_av]
            by_cases h8 : 8 ≤ r.pre.length
            · rw [ifB_t (by simp [stdOps]; omega), if_pos h8]
            · rw [ifB_f (by simp [stdOps]; omega), if_neg h8]
              have hlo := f88_l0_is (a0 := t.e) (a1 := t.i) (a2 := t.b) (a5 := n) (r13 := r.fence) (a7 := r.out.map Rec.av) (a8 := r.vec.map iav) (r14 := r.done.map iav) (a3 := t.r.map Rec.av) (a4 := t.v.map iav) (l := r.pre) (by omega) fuel r.pre.length fuel 0 (by omega) (by omega)
              rw [List.drop_zero, Nat.zero_add] at hlo
              change f88_l0 stdOps fuel _ _ _ _ _ _ _ _ _ _ _ fuel 0 = _ at hlo
              have htw := tw_le (p := fun u : Txn => decide (u.i < t.i)) (l := r.pre)
              have e1 : stdOps.sub (r.pre.map Txn.av) 0 ((r.pre.takeWhile fun u => decide (u.i < t.i)).length : Int) = (r.pre.takeWhile fun u => decide (u.i < t.i)).map Txn.av := by
                show ((r.pre.map Txn.av).take ((((r.pre.takeWhile fun u => decide (u.i < t.i)).length : Nat) : Int)).toNat).drop (0 : Int).toNat = _
                rw [Int.toNat_natCast, ← List.map_take, take_tw]; simp
              have e2 : stdOps.drop (r.pre.map Txn.av) ((r.pre.takeWhile fun u => decide (u.i < t.i)).length : Int) = (r.pre.dropWhile fun u => decide (u.i < t.i)).map Txn.av := by
                show (r.pre.map Txn.av).drop ((((r.pre.takeWhile fun u => decide (u.i < t.i)).length : Nat) : Int)).toNat = _
                rw [Int.toNat_natCast, ← List.map_drop, drop_tw]
              rw [bindR_eq hlo]
              dsimp only
              have hdw : (r.pre.dropWhile fun u => decide (u.i < t.i)).length ≤ r.pre.length := by
                have := congrArg List.length (List.takeWhile_append_dropWhile (p := fun u : Txn => decide (u.i < t.i)) (l := r.pre))
                rw [List.length_append] at this
                omega
              rw [e1, e2, req_eq _ (show stdOps.le 0 _ by show (0 : Int) ≤ _; omega), req_eq _ (show stdOps.le _ _ by show (_ : Int) ≤ _; omega),
                req_eq _ (room_ok (by simp only [List.length_nil, List.length_map]; omega)), bindR_eq (f104_is (by have := hs.2.2; omega) (by omega))]
              dsimp only
              rw [req_eq _ (room_ok (by simp only [stdOps, List.nil_append, List.length_map, List.length_cons, List.length_nil]; omega)),
                req_eq _ (show stdOps.le 0 _ by show (0 : Int) ≤ _; omega), req_eq _ (show stdOps.le _ _ by show (_ : Int) ≤ _; omega),
                req_eq _ (room_ok (by simp only [stdOps, List.nil_append, List.length_append, List.length_map, List.length_cons, List.length_nil]; omega))]
              simp [stdOps, rIns, Txn.av]
          · rw [ifB_t (by simp [stdOps, hc]), if_pos hc]
    · rw [ifB_t (by simp [stdOps, h1]), if_pos h1]

def rComS (r : Rf) (k : Int × Int) : Int × Rf :=
  if rDone r k = true then (0, r) else
  match r.pre.find? (fun u => decide (u.i = k.2)) with
  | none => (4, r)
  | some t => if suitsE r.out r.vec t ≠ 0 then (suitsE r.out r.vec t, r) else
    (0, { r with out := r.out ++ t.r.drop (r.out.length - t.b.toNat), vec := t.v, pre := rDrop r.pre k.2, done := iIns r.done k.2 })
def rNamed (w : Rf) (k : Int × Int) : Int × Rf := if posB k.1 = true ∧ posB k.2 = true then rReach w k.1 else (1, w)
theorem rNamed_f {w : Rf} {k1 k2 : Int} (h : posB k1 = false ∨ posB k2 = false) : rNamed w (k1, k2) = (1, w) := if_neg (by rcases h with h | h <;> simp [h])
theorem rNamed_t {w : Rf} {k1 k2 : Int} (h : posB k1 = true) (h2 : posB k2 = true) : rNamed w (k1, k2) = rReach w k1 := if_pos ⟨h, h2⟩
def rCom (w : Rf) (k : Int × Int) : Int × Rf := if (rNamed w k).1 ≠ 0 then rNamed w k else rComS (rNamed w k).2 k
theorem f89_is {fuel : Nat} {n k1 k2 : Int} {w : Rf} (hi : RI n w) (hn : n ≤ 4) (hf : 4097 < fuel ∧ w.done.length < fuel) :
    f89 stdOps fuel k1 k2 n w.fence (w.out.map Rec.av) (w.vec.map iav) (w.done.map iav) (w.pre.map Txn.av) =
      some (.v0 (rCom w (k1, k2)).1 (rCom w (k1, k2)).2.fence ((rCom w (k1, k2)).2.out.map Rec.av) ((rCom w (k1, k2)).2.vec.map iav) ((rCom w (k1, k2)).2.done.map iav) ((rCom w (k1, k2)).2.pre.map Txn.av)) := by
  unfold f89 rCom
  rw [bindR_eq f82_is]
  dsimp only
  cases hp1 : posB k1 with
  | false => rw [ifB_t (by simp [stdOps]), rNamed_f (.inl hp1), if_pos (by simp)]
  | true =>
    rw [ifB_f (by simp [stdOps]), bindR_eq f82_is]
    dsimp only
    cases hp2 : posB k2 with
    | false => rw [ifB_t (by simp [stdOps]), rNamed_f (.inr hp2), if_pos (by simp)]
    | true =>
      rw [ifB_f (by simp [stdOps]), rNamed_t hp1 hp2, bindR_eq f130_is]
      dsimp only
      have hir := hi.reach k1
      obtain ⟨hd, ho, hvc⟩ := rReach_done (w := w) (e := k1)
      by_cases h1 : (rReach w k1).1 = 0
      · rw [ifB_f (by simp [stdOps, h1]), if_neg (by simp [h1]), ← ho, ← hvc]
        generalize rReach w k1 = q at *
        obtain ⟨q1, r⟩ := q
        dsimp only at *
        have hdl := hir.done
        have hpl := hir.pre.1
        have hol := hir.out
        rw [bindR_eq (f109_is (by omega) (by omega))]
        dsimp only
        unfold rComS
        cases hdd : rDone r (k1, k2) with
        | true => rw [ifB_t rfl, if_pos rfl]
        | false =>
          rw [ifB_f rfl, if_neg (by simp)]
          rcases f131_is (fuel := fuel) (x := k2) (a1 := n) (a2 := r.fence) (a3 := r.out.map Rec.av) (a4 := r.vec.map iav) (a5 := r.done.map iav) (l := r.pre) (by omega) (by omega) with ⟨j, hj, h2, h3⟩ | ⟨h2, h3⟩
          · rw [bindR_eq h3, h2]
            dsimp only
            have hu := hir.pre.2 r.pre[j] (List.getElem_mem hj)
            have hul := cntB_len (mayB_cnt hu)
            have hus := mayB_small hu
            rw [ifB_f (by simp [stdOps]), inbR hj, getT hj]
            generalize r.pre[j] = t at *
            rw [bindR_eq (f132_is hus hir.out ⟨by omega, by omega⟩ (by omega))]
            dsimp only
            by_cases hc : suitsE r.out r.vec t = 0
            · obtain ⟨s1, s2, s3, s4, s5⟩ := suits_zero hc
              obtain ⟨u1, u2, u3⟩ := hus
              have hsub : stdOps.ar .sub .i64 (r.out.length : Int) t.b = ((r.out.length - t.b.toNat : Nat) : Int) := by simp only [stdOps]; rw [wr_i64 (by omega) (by omega)]; omega
              have e1 : stdOps.drop (t.r.map Rec.av) ((r.out.length - t.b.toNat : Nat) : Int) = (t.r.drop (r.out.length - t.b.toNat)).map Rec.av := by
                show (t.r.map Rec.av).drop (((r.out.length - t.b.toNat : Nat) : Int)).toNat = _
                rw [Int.toNat_natCast, ← List.map_drop]
              rw [ifB_f (by simp [stdOps, hc]), if_neg (by simp [hc]), req_eq _ (room_ok (by simp only [List.length_nil, List.length_map]; omega)), bindR_eq f106_is]
              dsimp only
              rw [hsub, req_eq _ (show stdOps.le 0 _ by show (0 : Int) ≤ _; omega), req_eq _ (show stdOps.le _ _ by rw [len_av]; show (_ : Int) ≤ _; omega), e1,
                req_eq _ (room_ok (by simp only [stdOps, List.nil_append, List.length_map, List.length_drop]; omega)), bindR_eq (f133_is (by omega) (by omega))]
              dsimp only
              have hlo := f89_l0_is (a0 := k1) (a1 := k2) (a2 := n) (r11 := r.fence) (r22 := r.out.length) (v18 := t.b) (a4 := r.out.map Rec.av) (v19 := t.r.map Rec.av) (v20 := t.v.map iav) (r23 := (rDrop r.pre k2).map Txn.av) (l := r.done) (by omega) fuel r.done.length fuel 0 (by omega) (by omega)
              rw [List.drop_zero, Nat.zero_add] at hlo
              change f89_l0 stdOps fuel _ _ _ _ _ _ _ _ _ _ _ fuel 0 = _ at hlo
              have htw := tw_le (p := fun u : Int => decide (u < k2)) (l := r.done)
              have e2 : stdOps.sub (r.done.map iav) 0 ((r.done.takeWhile fun u => decide (u < k2)).length : Int) = (r.done.takeWhile fun u => decide (u < k2)).map iav := by
                show ((r.done.map iav).take ((((r.done.takeWhile fun u => decide (u < k2)).length : Nat) : Int)).toNat).drop (0 : Int).toNat = _
                rw [Int.toNat_natCast, ← List.map_take, take_tw]; simp
              have e3 : stdOps.drop (r.done.map iav) ((r.done.takeWhile fun u => decide (u < k2)).length : Int) = (r.done.dropWhile fun u => decide (u < k2)).map iav := by
                show (r.done.map iav).drop ((((r.done.takeWhile fun u => decide (u < k2)).length : Nat) : Int)).toNat = _
                rw [Int.toNat_natCast, ← List.map_drop, drop_tw]
              have hdw : (r.done.dropWhile fun u => decide (u < k2)).length ≤ r.done.length := by
                have := congrArg List.length (List.takeWhile_append_dropWhile (p := fun u : Int => decide (u < k2)) (l := r.done))
                rw [List.length_append] at this
                omega
              rw [bindR_eq hlo]
              dsimp only
              rw [e2, e3, len_av, req_eq _ (show stdOps.le 0 _ by show (0 : Int) ≤ _; omega), req_eq _ (show stdOps.le _ _ by show (_ : Int) ≤ _; omega),
                req_eq _ (room_ok (by simp only [List.length_nil, List.length_map]; omega)),
                req_eq _ (room_ok (by simp only [stdOps, List.nil_append, List.length_map, List.length_cons, List.length_nil]; omega)),
                req_eq _ (show stdOps.le 0 _ by show (0 : Int) ≤ _; omega), req_eq _ (show stdOps.le _ _ by show (_ : Int) ≤ _; omega),
                req_eq _ (room_ok (by simp only [stdOps, List.nil_append, List.length_append, List.length_map, List.length_cons, List.length_nil]; omega))]
              simp [stdOps, iIns, iav]
            · rw [ifB_t (by simp [stdOps, hc]), if_pos hc]
          · rw [bindR_eq h3, h2]
            dsimp only
            rw [ifB_t (by simp [stdOps])]
      · rw [ifB_t (by simp [stdOps, h1]), if_pos h1, ho, hvc]

def rAbo (w : Rf) (k : Int × Int) : Int × Rf :=
  if (rNamed w k).1 ≠ 0 then rNamed w k else if rDone (rNamed w k).2 k = true then (5, (rNamed w k).2) else (0, { (rNamed w k).2 with pre := rDrop (rNamed w k).2.pre k.2 })
theorem f90_is {fuel : Nat} {n k1 k2 : Int} {w : Rf} {a b : List AV} (hi : RI n w) (hf : 4097 < fuel ∧ w.done.length < fuel) :
    f90 stdOps fuel k1 k2 n w.fence a b (w.done.map iav) (w.pre.map Txn.av) =
      some (.v0 (rAbo w (k1, k2)).1 (rAbo w (k1, k2)).2.fence ((rAbo w (k1, k2)).2.done.map iav) ((rAbo w (k1, k2)).2.pre.map Txn.av)) := by
  unfold f90 rAbo
  rw [bindR_eq f82_is]
  dsimp only
  cases hp1 : posB k1 with
  | false => rw [ifB_t (by simp [stdOps]), rNamed_f (.inl hp1), if_pos (by simp)]
  | true =>
    rw [ifB_f (by simp [stdOps]), bindR_eq f82_is]
    dsimp only
    cases hp2 : posB k2 with
    | false => rw [ifB_t (by simp [stdOps]), rNamed_f (.inr hp2), if_pos (by simp)]
    | true =>
      rw [ifB_f (by simp [stdOps]), rNamed_t hp1 hp2, bindR_eq f130_is]
      dsimp only
      have hir := hi.reach k1
      obtain ⟨hd, ho, hvc⟩ := rReach_done (w := w) (e := k1)
      by_cases h1 : (rReach w k1).1 = 0
      · rw [ifB_f (by simp [stdOps, h1]), if_neg (by simp [h1])]
        generalize rReach w k1 = q at *
        obtain ⟨q1, r⟩ := q
        dsimp only at *
        have hdl := hir.done
        have hpl := hir.pre.1
        rw [bindR_eq (f109_is (by omega) (by omega))]
        dsimp only
        cases hdd : rDone r (k1, k2) with
        | true => rw [ifB_t rfl, if_pos rfl]
        | false => rw [ifB_f rfl, if_neg (by simp), bindR_eq (f133_1_is (by omega) (by omega))]
      · rw [ifB_t (by simp [stdOps, h1]), if_pos h1]
end Go.Proofs.Ytjdbmfipciadfaa.A
