/- The sink: what the small functions of the program and of the document's answer give, in plain Lean. -/
import Derived.Test.YtjdbmfipciadfaaSxAll
import Derived.Test.YtjdbmfipciadfaaMa3

namespace Go.Proofs.Ytjdbmfipciadfaa.A
open Go Go.Pt

structure Rec where
  k : Int
  v : Int
  deriving DecidableEq
structure Txn where
  e : Int
  i : Int
  b : Int
  r : List Rec
  v : List Int
  deriving DecidableEq
structure SOp where
  d : Int
  t : Txn
def iav (n : Int) : AV := .int .i64 n
def Rec.av (x : Rec) : AV := .agg [.int .i64 x.k, .int .i64 x.v]
def Txn.av (t : Txn) : AV := .agg [.int .i64 t.e, .int .i64 t.i, .int .i64 t.b, .sl 2 (t.r.map Rec.av) .no, .sl 1 (t.v.map iav) .no]
def SOp.av (x : SOp) : AV := .agg [.int .i64 x.d, .int .i64 x.t.e, .int .i64 x.t.i, .int .i64 x.t.b, .sl 2 (x.t.r.map Rec.av) .no, .sl 1 (x.t.v.map iav) .no]

section
variable {α : Type}
theorem get_av {β : Type} {f : β → AV} {l : List β} {i : Nat} (h : i < l.length) : stdOps.get (l.map f) (i : Int) = some (f l[i]) := by simp [stdOps, h]
theorem inb_av {β : Type} {f : β → AV} {l : List β} {i : Nat} (h : i < l.length) : stdOps.inb (i : Int) (stdOps.len (l.map f)) := by simp [stdOps]; omega
theorem len_av {β : Type} {f : β → AV} {l : List β} : stdOps.len (l.map f) = (l.length : Int) := by simp [stdOps]
theorem lss_t {i n : Nat} (h : i < n) : stdOps.cmp .lss (i : Int) (n : Int) = true := by simp [stdOps]; omega
theorem lss_f {i n : Nat} (h : ¬ i < n) : stdOps.cmp .lss (i : Int) (n : Int) = false := by simp [stdOps]; omega
theorem add1 {i : Nat} (h : i < 2 ^ 60) : stdOps.ar .add .i64 (i : Int) 1 = ((i + 1 : Nat) : Int) := by simp only [stdOps]; rw [wr_i64 (by omega) (by omega)]; omega
theorem inbR {β : Type} {f : β → AV} {l : List β} {i : Nat} {x : Option α} (h : i < l.length) : req (stdOps.inb (i : Int) (stdOps.len (l.map f))) x = x := req_eq _ (inb_av h)
theorem getI {l : List Int} {i : Nat} (h : i < l.length) (k : Int → Option α) : getA (stdOps.get (l.map iav) (i : Int)) (fun e => sh2 e k) = k l[i] := by rw [getA_eq (get_av h)]; rfl
theorem getR {l : List Rec} {i : Nat} (h : i < l.length) (k : Int → Int → Option α) : getA (stdOps.get (l.map Rec.av) (i : Int)) (fun e => sh57 e k) = k l[i].k l[i].v := by rw [getA_eq (get_av h)]; rfl
theorem getT {l : List Txn} {i : Nat} (h : i < l.length) (k : Int → Int → Int → List AV → List AV → Option α) : getA (stdOps.get (l.map Txn.av) (i : Int)) (fun e => sh31 e k) = k l[i].e l[i].i l[i].b (l[i].r.map Rec.av) (l[i].v.map iav) := by rw [getA_eq (get_av h)]; rfl
theorem getO {l : List SOp} {i : Nat} (h : i < l.length) (k : Int → Int → Int → Int → List AV → List AV → Option α) : getA (stdOps.get (l.map SOp.av) (i : Int)) (fun e => sh33 e k) = k l[i].d l[i].t.e l[i].t.i l[i].t.b (l[i].t.r.map Rec.av) (l[i].t.v.map iav) := by rw [getA_eq (get_av h)]; rfl
theorem getK {l : List (Int × Int)} {i : Nat} (h : i < l.length) (k : Int → Int → Option α) : getA (stdOps.get (l.map kav) (i : Int)) (fun e => sh37 e k) = k l[i].1 l[i].2 := by rw [getA_eq (get_av h)]; rfl
theorem ifB_if {b : Bool} {x y : Option α} : ifB b x y = if b = true then x else y := by cases b <;> rfl
theorem isNil_e {n : Bool} {k : Bool → Option α} (h : k true = k false) : isNil [] n k = k true := by unfold isNil; rw [if_pos rfl, if_pos h]
theorem isNil_m {l : List AV} {n : Bool} {k : Bool → Option α} (h : l ≠ []) : isNil l n k = k n := by unfold isNil; rw [if_neg h]
theorem drop_all {β : Type} {l : List β} {i : Nat} (h : i < l.length) : l.drop i = l[i] :: l.drop (i + 1) := List.drop_eq_getElem_cons h
end

/-! Numbers. -/
def MAXN : Int := 9007199254740992
def posB (n : Int) : Bool := decide (1 ≤ n) && decide (n ≤ MAXN)
theorem f86_is {fuel : Nat} {n : Int} : f86 stdOps fuel n = some (.v0 (posB n)) := by
  unfold f86 posB MAXN
  simp only [stdOps]
  by_cases h : n ≥ 1 <;> simp [h]
theorem f82_is {fuel : Nat} {n : Int} : f82 stdOps fuel n = some (.v0 (posB n)) := by
  unfold f82 posB MAXN
  simp only [stdOps]
  by_cases h : n ≥ 1 <;> simp [h]
def badB (n : Int) : Bool := decide (n < 0) || decide (MAXN < n)
theorem f141_is {fuel : Nat} {n : Int} : f141 stdOps fuel n = some (.v0 (badB n)) := by
  unfold f141 badB MAXN
  simp only [stdOps]
  by_cases h : n < 0 <;> simp [h]

/-! Lists of numbers: as many as there are partitions, each a count. -/
theorem f159_l0_is : ∀ (d f fuel i : Nat) (l : List Int), i + d = l.length → d < f → l.length < 2 ^ 60 →
    ∃ x, f159_l0 stdOps fuel (l.map iav) f (i : Int) = some x ∧ (((l.drop i).any badB = true ∧ ∃ j : Nat, x = .x0 (j : Int)) ∨ ((l.drop i).any badB = false ∧ x = .x1)) := by
  intro d
  induction d with
  | zero =>
    intro f fuel i l hi hf hl
    obtain ⟨f, rfl⟩ : ∃ g, f = g + 1 := ⟨f - 1, by omega⟩
    refine ⟨.x1, by rw [f159_l0, len_av, ifB_f (lss_f (by omega))], .inr ⟨?_, rfl⟩⟩
    rw [List.drop_of_length_le (by omega)]; rfl
  | succ d ih =>
    intro f fuel i l hi hf hl
    obtain ⟨f, rfl⟩ : ∃ g, f = g + 1 := ⟨f - 1, by omega⟩
    have hlt : i < l.length := by omega
    have hd := drop_all hlt
    rw [f159_l0, inbR hlt, len_av, ifB_t (lss_t hlt), getI hlt, bindR_eq f141_is]
    dsimp only
    cases hb : badB l[i] with
    | true => exact ⟨.x0 (i : Int), rfl, .inl ⟨by rw [hd, List.any_cons, hb]; rfl, i, rfl⟩⟩
    | false =>
      obtain ⟨x, h1, h2⟩ := ih f fuel (i + 1) l (by omega) (by omega) hl
      refine ⟨x, by rw [ifB_f rfl, add1 (by omega)]; exact h1, ?_⟩
      rw [hd, List.any_cons, hb, Bool.false_or]; exact h2
theorem f140_is {fuel : Nat} {l : List Int} (hf : l.length < fuel) (hl : l.length < 2 ^ 60) : f140 stdOps fuel (l.map iav) = some (.v0 (l.any badB)) := by
  obtain ⟨x, h1, h2⟩ := f159_l0_is l.length fuel fuel 0 l (by omega) hf hl
  rw [List.drop_zero] at h2
  unfold f140 f159
  rw [Int.ofNat_zero] at h1
  rw [h1]
  rcases h2 with ⟨h2, j, rfl⟩ | ⟨h2, rfl⟩
  · rw [h2]
    show some (F140R.v0 (stdOps.cmp .geq (j : Int) 0)) = _
    simp [stdOps]
  · rw [h2]; rfl
def cntB (l : List Int) (n : Int) : Bool := decide ((l.length : Int) = n) && !l.any badB
theorem f100_is {fuel : Nat} {l : List Int} {n : Int} (hf : l.length < fuel) (hl : l.length < 2 ^ 60) : f100 stdOps fuel (l.map iav) n = some (.v0 (cntB l n)) := by
  unfold f100 cntB
  rw [len_av, f140_is hf hl]
  by_cases h : (l.length : Int) = n
  · rw [ifB_t (by simp [stdOps, h])]; simp [bindR, stdOps, h]
  · rw [ifB_f (by simp [stdOps, h])]; simp [h]

/-! No number is less. -/
def abvB (a b : List Int) : Bool := decide (a.length = b.length) && (a.zip b).all fun p => decide (p.2 ≤ p.1)
theorem f46_l0_is : ∀ (d f fuel i : Nat) (a b : List Int), i + d = a.length → a.length = b.length → d < f → a.length < 2 ^ 60 →
    f46_l0 stdOps fuel (a.map iav) (b.map iav) f (i : Int) = some (cond (((a.drop i).zip (b.drop i)).all (fun p => decide (p.2 ≤ p.1))) .x1 .x0) := by
  intro d
  induction d with
  | zero =>
    intro f fuel i a b hi hab hf hl
    obtain ⟨f, rfl⟩ : ∃ g, f = g + 1 := ⟨f - 1, by omega⟩
    rw [f46_l0, len_av, ifB_f (lss_f (by omega)), List.drop_of_length_le (by omega)]; rfl
  | succ d ih =>
    intro f fuel i a b hi hab hf hl
    obtain ⟨f, rfl⟩ : ∃ g, f = g + 1 := ⟨f - 1, by omega⟩
    have h1 : i < a.length := by omega
    have h2 : i < b.length := by omega
    rw [f46_l0, inbR h1, len_av, ifB_t (lss_t h1), getI h1, inbR h2, getI h2, drop_all h1, drop_all h2]
    simp only [List.zip_cons_cons, List.all_cons]
    by_cases h : a[i] < b[i]
    · rw [ifB_t (by simp [stdOps, h])]
      have : decide (b[i] ≤ a[i]) = false := by simp; omega
      simp [this]
    · rw [ifB_f (by simp [stdOps]; omega), add1 (by omega), ih f fuel (i + 1) a b (by omega) hab (by omega) hl]
      have : decide (b[i] ≤ a[i]) = true := by simp; omega
      rw [this, Bool.true_and]
theorem f46_is {fuel : Nat} {a b : List Int} (hf : a.length < fuel) (hl : a.length < 2 ^ 60) : f46 stdOps fuel (a.map iav) (b.map iav) = some (.v0 (abvB a b)) := by
  unfold f46 abvB
  rw [len_av, len_av]
  by_cases h : a.length = b.length
  · have h0 := f46_l0_is a.length fuel fuel 0 a b (by omega) h hf hl
    rw [Int.ofNat_zero, List.drop_zero, List.drop_zero] at h0
    rw [ifB_f (by simp [stdOps, h]), h0]
    cases hb : (a.zip b).all (fun p => decide (p.2 ≤ p.1)) <;> simp [bindR, h]
  · rw [ifB_t (by simp [stdOps]; omega)]; simp [h]
theorem f29_l0_is : ∀ (d f fuel i : Nat) (a b : List Int), i + d = a.length → a.length = b.length → d < f → a.length < 2 ^ 60 →
    f29_l0 stdOps fuel (a.map iav) (b.map iav) f (i : Int) = some (cond (((a.drop i).zip (b.drop i)).all (fun p => decide (p.2 ≤ p.1))) .x1 .x0) := by
  intro d
  induction d with
  | zero =>
    intro f fuel i a b hi hab hf hl
    obtain ⟨f, rfl⟩ : ∃ g, f = g + 1 := ⟨f - 1, by omega⟩
    rw [f29_l0, len_av, ifB_f (lss_f (by omega)), List.drop_of_length_le (by omega)]; rfl
  | succ d ih =>
    intro f fuel i a b hi hab hf hl
    obtain ⟨f, rfl⟩ : ∃ g, f = g + 1 := ⟨f - 1, by omega⟩
    have h1 : i < a.length := by omega
    have h2 : i < b.length := by omega
    rw [f29_l0, inbR h1, len_av, ifB_t (lss_t h1), getI h1, inbR h2, getI h2, drop_all h1, drop_all h2]
    simp only [List.zip_cons_cons, List.all_cons]
    by_cases h : a[i] < b[i]
    · rw [ifB_t (by simp [stdOps, h])]
      have : decide (b[i] ≤ a[i]) = false := by simp; omega
      simp [this]
    · rw [ifB_f (by simp [stdOps]; omega), add1 (by omega), ih f fuel (i + 1) a b (by omega) hab (by omega) hl]
      have : decide (b[i] ≤ a[i]) = true := by simp; omega
      rw [this, Bool.true_and]
theorem f29_is {fuel : Nat} {a b : List Int} (hf : a.length < fuel) (hl : a.length < 2 ^ 60) : f29 stdOps fuel (a.map iav) (b.map iav) = some (.v0 (abvB a b)) := by
  unfold f29 abvB
  rw [len_av, len_av]
  by_cases h : a.length = b.length
  · have h0 := f29_l0_is a.length fuel fuel 0 a b (by omega) h hf hl
    rw [Int.ofNat_zero, List.drop_zero, List.drop_zero] at h0
    rw [ifB_f (by simp [stdOps, h]), h0]
    cases hb : (a.zip b).all (fun p => decide (p.2 ≤ p.1)) <;> simp [bindR, h]
  · rw [ifB_t (by simp [stdOps]; omega)]; simp [h]
/-! Equal lists. -/
theorem f28_l0_is : ∀ (d f fuel i : Nat) (a b : List Rec), i + d = a.length → a.length = b.length → d < f → a.length < 2 ^ 60 →
    f28_l0 stdOps fuel (a.map Rec.av) (b.map Rec.av) f (i : Int) = some (if a.drop i = b.drop i then .x1 else .x0) := by
  intro d
  induction d with
  | zero =>
    intro f fuel i a b hi hab hf hl
    obtain ⟨f, rfl⟩ : ∃ g, f = g + 1 := ⟨f - 1, by omega⟩
    rw [f28_l0, len_av, ifB_f (lss_f (by omega)), List.drop_of_length_le (by omega), List.drop_of_length_le (by omega)]; rfl
  | succ d ih =>
    intro f fuel i a b hi hab hf hl
    obtain ⟨f, rfl⟩ : ∃ g, f = g + 1 := ⟨f - 1, by omega⟩
    have h1 : i < a.length := by omega
    have h2 : i < b.length := by omega
    rw [f28_l0, inbR h1, len_av, ifB_t (lss_t h1), getR h1, inbR h2, getR h2, drop_all h1, drop_all h2]
    simp only [List.cons.injEq]
    by_cases h : a[i] = b[i]
    · rw [ifB_f (by simp [stdOps, h]), add1 (by omega), ih f fuel (i + 1) a b (by omega) hab (by omega) hl]
      simp [h]
    · have hne : ¬ (a[i].k = b[i].k ∧ a[i].v = b[i].v) := fun e => h (by cases ha : a[i]; cases hb : b[i]; rw [ha, hb] at e; simp only at e; rw [e.1, e.2])
      rw [ifB_t (by
        simp only [stdOps]
        by_cases h3 : a[i].k = b[i].k
        · have : ¬ a[i].v = b[i].v := fun e => hne ⟨h3, e⟩
          simp [h3, this]
        · simp [h3])]
      simp [h]
theorem f28_is {fuel : Nat} {a b : List Rec} (hf : a.length < fuel) (hl : a.length < 2 ^ 60) : f28 stdOps fuel (a.map Rec.av) (b.map Rec.av) = some (.v0 (decide (a = b))) := by
  unfold f28
  rw [len_av, len_av]
  by_cases h : a.length = b.length
  · have h0 := f28_l0_is a.length fuel fuel 0 a b (by omega) h hf hl
    rw [Int.ofNat_zero, List.drop_zero, List.drop_zero] at h0
    rw [ifB_f (by simp [stdOps, h]), h0]
    by_cases e : a = b <;> simp [bindR, e]
  · have e : a ≠ b := fun e => h (by rw [e])
    rw [ifB_t (by simp [stdOps]; omega)]; simp [e]

theorem f84_l0_is : ∀ (d f fuel i : Nat) (a b : List Rec), i + d = a.length → a.length = b.length → d < f → a.length < 2 ^ 60 →
    f84_l0 stdOps fuel (a.map Rec.av) (b.map Rec.av) f (i : Int) = some (if a.drop i = b.drop i then .x1 else .x0) := by
  intro d
  induction d with
  | zero =>
    intro f fuel i a b hi hab hf hl
    obtain ⟨f, rfl⟩ : ∃ g, f = g + 1 := ⟨f - 1, by omega⟩
    rw [f84_l0, len_av, ifB_f (lss_f (by omega)), List.drop_of_length_le (by omega), List.drop_of_length_le (by omega)]; rfl
  | succ d ih =>
    intro f fuel i a b hi hab hf hl
    obtain ⟨f, rfl⟩ : ∃ g, f = g + 1 := ⟨f - 1, by omega⟩
    have h1 : i < a.length := by omega
    have h2 : i < b.length := by omega
    rw [f84_l0, inbR h1, len_av, ifB_t (lss_t h1), getR h1, inbR h2, getR h2, drop_all h1, drop_all h2]
    simp only [List.cons.injEq]
    by_cases h : a[i] = b[i]
    · rw [ifB_f (by simp [stdOps, h]), add1 (by omega), ih f fuel (i + 1) a b (by omega) hab (by omega) hl]
      simp [h]
    · have hne : ¬ (a[i].k = b[i].k ∧ a[i].v = b[i].v) := fun e => h (by cases ha : a[i]; cases hb : b[i]; rw [ha, hb] at e; simp only at e; rw [e.1, e.2])
      rw [ifB_t (by
        simp only [stdOps]
        by_cases h3 : a[i].k = b[i].k
        · have : ¬ a[i].v = b[i].v := fun e => hne ⟨h3, e⟩
          simp [h3, this]
        · simp [h3])]
      simp [h]
theorem f84_is {fuel : Nat} {a b : List Rec} (hf : a.length < fuel) (hl : a.length < 2 ^ 60) : f84 stdOps fuel (a.map Rec.av) (b.map Rec.av) = some (.v0 (decide (a = b))) := by
  unfold f84
  rw [len_av, len_av]
  by_cases h : a.length = b.length
  · have h0 := f84_l0_is a.length fuel fuel 0 a b (by omega) h hf hl
    rw [Int.ofNat_zero, List.drop_zero, List.drop_zero] at h0
    rw [ifB_f (by simp [stdOps, h]), h0]
    by_cases e : a = b <;> simp [bindR, e]
  · have e : a ≠ b := fun e => h (by rw [e])
    rw [ifB_t (by simp [stdOps]; omega)]; simp [e]

theorem f62_l0_is : ∀ (d f fuel i : Nat) (a b : List Int), i + d = a.length → a.length = b.length → d < f → a.length < 2 ^ 60 →
    f62_l0 stdOps fuel (a.map iav) (b.map iav) f (i : Int) = some (if a.drop i = b.drop i then .x1 else .x0) := by
  intro d
  induction d with
  | zero =>
    intro f fuel i a b hi hab hf hl
    obtain ⟨f, rfl⟩ : ∃ g, f = g + 1 := ⟨f - 1, by omega⟩
    rw [f62_l0, len_av, ifB_f (lss_f (by omega)), List.drop_of_length_le (by omega), List.drop_of_length_le (by omega)]; rfl
  | succ d ih =>
    intro f fuel i a b hi hab hf hl
    obtain ⟨f, rfl⟩ : ∃ g, f = g + 1 := ⟨f - 1, by omega⟩
    have h1 : i < a.length := by omega
    have h2 : i < b.length := by omega
    rw [f62_l0, inbR h1, len_av, ifB_t (lss_t h1), getI h1, inbR h2, getI h2, drop_all h1, drop_all h2]
    simp only [List.cons.injEq]
    by_cases h : a[i] = b[i]
    · rw [ifB_f (by simp [stdOps, h]), add1 (by omega), ih f fuel (i + 1) a b (by omega) hab (by omega) hl]
      simp [h]
    · rw [ifB_t (by simp [stdOps, h])]
      simp [h]
theorem f62_is {fuel : Nat} {a b : List Int} (hf : a.length < fuel) (hl : a.length < 2 ^ 60) : f62 stdOps fuel (a.map iav) (b.map iav) = some (.v0 (decide (a = b))) := by
  unfold f62
  rw [len_av, len_av]
  by_cases h : a.length = b.length
  · have h0 := f62_l0_is a.length fuel fuel 0 a b (by omega) h hf hl
    rw [Int.ofNat_zero, List.drop_zero, List.drop_zero] at h0
    rw [ifB_f (by simp [stdOps, h]), h0]
    by_cases e : a = b <;> simp [bindR, e]
  · have e : a ≠ b := fun e => h (by rw [e])
    rw [ifB_t (by simp [stdOps]; omega)]; simp [e]

theorem f85_l0_is : ∀ (d f fuel i : Nat) (a b : List Int), i + d = a.length → a.length = b.length → d < f → a.length < 2 ^ 60 →
    f85_l0 stdOps fuel (a.map iav) (b.map iav) f (i : Int) = some (if a.drop i = b.drop i then .x1 else .x0) := by
  intro d
  induction d with
  | zero =>
    intro f fuel i a b hi hab hf hl
    obtain ⟨f, rfl⟩ : ∃ g, f = g + 1 := ⟨f - 1, by omega⟩
    rw [f85_l0, len_av, ifB_f (lss_f (by omega)), List.drop_of_length_le (by omega), List.drop_of_length_le (by omega)]; rfl
  | succ d ih =>
    intro f fuel i a b hi hab hf hl
    obtain ⟨f, rfl⟩ : ∃ g, f = g + 1 := ⟨f - 1, by omega⟩
    have h1 : i < a.length := by omega
    have h2 : i < b.length := by omega
    rw [f85_l0, inbR h1, len_av, ifB_t (lss_t h1), getI h1, inbR h2, getI h2, drop_all h1, drop_all h2]
    simp only [List.cons.injEq]
    by_cases h : a[i] = b[i]
    · rw [ifB_f (by simp [stdOps, h]), add1 (by omega), ih f fuel (i + 1) a b (by omega) hab (by omega) hl]
      simp [h]
    · rw [ifB_t (by simp [stdOps, h])]
      simp [h]
theorem f85_is {fuel : Nat} {a b : List Int} (hf : a.length < fuel) (hl : a.length < 2 ^ 60) : f85 stdOps fuel (a.map iav) (b.map iav) = some (.v0 (decide (a = b))) := by
  unfold f85
  rw [len_av, len_av]
  by_cases h : a.length = b.length
  · have h0 := f85_l0_is a.length fuel fuel 0 a b (by omega) h hf hl
    rw [Int.ofNat_zero, List.drop_zero, List.drop_zero] at h0
    rw [ifB_f (by simp [stdOps, h]), h0]
    by_cases e : a = b <;> simp [bindR, e]
  · have e : a ≠ b := fun e => h (by rw [e])
    rw [ifB_t (by simp [stdOps]; omega)]; simp [e]
end Go.Proofs.Ytjdbmfipciadfaa.A
