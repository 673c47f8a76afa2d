/- The sink: small tests, equalities, maps as lists; what each call of the program gives. -/
import Derived.Test.YtjdbmfipciadfaaMa3
import Derived.Test.YtjdbmfipciadfaaSxAll

namespace Go.Proofs.Ytjdbmfipciadfaa.A
open Go Go.Pt

structure Rec where
  k : Int
  v : Int
  deriving DecidableEq
structure Txn where
  e : Int
  i : Int
  b : Int
  r : List Rec
  v : List Int
  deriving DecidableEq
structure SOp where
  d : Int
  t : Txn
def iav (n : Int) : AV := .int .i64 n
def Rec.av (x : Rec) : AV := .agg [.int .i64 x.k, .int .i64 x.v]
def Txn.av (t : Txn) : AV := .agg [.int .i64 t.e, .int .i64 t.i, .int .i64 t.b, .sl 2 (t.r.map Rec.av) .no, .sl 1 (t.v.map iav) .no]
def SOp.av (x : SOp) : AV := .agg [.int .i64 x.d, .int .i64 x.t.e, .int .i64 x.t.i, .int .i64 x.t.b, .sl 2 (x.t.r.map Rec.av) .no, .sl 1 (x.t.v.map iav) .no]

section
variable {α : Type}
theorem get_av {β : Type} {f : β → AV} {l : List β} {i : Nat} (h : i < l.length) : stdOps.get (l.map f) (i : Int) = some (f l[i]) := by simp [stdOps, h]
theorem inb_av {β : Type} {f : β → AV} {l : List β} {i : Nat} (h : i < l.length) : stdOps.inb (i : Int) (stdOps.len (l.map f)) := by simp [stdOps]; omega
theorem len_av {β : Type} {f : β → AV} {l : List β} : stdOps.len (l.map f) = (l.length : Int) := by simp [stdOps]
theorem lss_t {i n : Nat} (h : i < n) : stdOps.cmp .lss (i : Int) (n : Int) = true := by simp [stdOps]; omega
theorem lss_f {i n : Nat} (h : ¬ i < n) : stdOps.cmp .lss (i : Int) (n : Int) = false := by simp [stdOps]; omega
theorem add1 {i : Nat} (h : i < 2 ^ 60) : stdOps.ar .add .i64 (i : Int) 1 = ((i + 1 : Nat) : Int) := by simp only [stdOps]; rw [wr_i64 (by omega) (by omega)]; omega
theorem inbR {β : Type} {f : β → AV} {l : List β} {i : Nat} {x : Option α} (h : i < l.length) : req (stdOps.inb (i : Int) (stdOps.len (l.map f))) x = x := req_eq _ (inb_av h)
theorem getI {l : List Int} {i : Nat} (h : i < l.length) (k : Int → Option α) : getA (stdOps.get (l.map iav) (i : Int)) (fun e => sh2 e k) = k l[i] := by rw [getA_eq (get_av h)]; rfl
theorem getR {l : List Rec} {i : Nat} (h : i < l.length) (k : Int → Int → Option α) : getA (stdOps.get (l.map Rec.av) (i : Int)) (fun e => sh57 e k) = k l[i].k l[i].v := by rw [getA_eq (get_av h)]; rfl
theorem getT {l : List Txn} {i : Nat} (h : i < l.length) (k : Int → Int → Int → List AV → List AV → Option α) : getA (stdOps.get (l.map Txn.av) (i : Int)) (fun e => sh31 e k) = k l[i].e l[i].i l[i].b (l[i].r.map Rec.av) (l[i].v.map iav) := by rw [getA_eq (get_av h)]; rfl
theorem getO {l : List SOp} {i : Nat} (h : i < l.length) (k : Int → Int → Int → Int → List AV → List AV → Option α) : getA (stdOps.get (l.map SOp.av) (i : Int)) (fun e => sh33 e k) = k l[i].d l[i].t.e l[i].t.i l[i].t.b (l[i].t.r.map Rec.av) (l[i].t.v.map iav) := by rw [getA_eq (get_av h)]; rfl
theorem getK {l : List (Int × Int)} {i : Nat} (h : i < l.length) (k : Int → Int → Option α) : getA (stdOps.get (l.map kav) (i : Int)) (fun e => sh37 e k) = k l[i].1 l[i].2 := by rw [getA_eq (get_av h)]; rfl
theorem ifB_if {b : Bool} {x y : Option α} : ifB b x y = if b = true then x else y := by cases b <;> rfl
theorem isNil_e {n : Bool} {k : Bool → Option α} (h : k true = k false) : isNil [] n k = k true := by unfold isNil; rw [if_pos rfl, if_pos h]
theorem isNil_m {l : List AV} {n : Bool} {k : Bool → Option α} (h : l ≠ []) : isNil l n k = k n := by unfold isNil; rw [if_neg h]
theorem drop_all {β : Type} {l : List β} {i : Nat} (h : i < l.length) : l.drop i = l[i] :: l.drop (i + 1) := List.drop_eq_getElem_cons h
end

/-! Numbers. -/
def MAXN : Int := 9007199254740992
def posB (n : Int) : Bool := decide (1 ≤ n) && decide (n ≤ MAXN)
theorem f86_is {fuel : Nat} {n : Int} : f86 stdOps fuel n = some (.v0 (posB n)) := by
  unfold f86 posB MAXN
  simp only [stdOps]
  by_cases h : n ≥ 1 <;> simp [h]
theorem f82_is {fuel : Nat} {n : Int} : f82 stdOps fuel n = some (.v0 (posB n)) := by
  unfold f82 posB MAXN
  simp only [stdOps]
  by_cases h : n ≥ 1 <;> simp [h]
def badB (n : Int) : Bool := decide (n < 0) || decide (MAXN < n)
theorem f141_is {fuel : Nat} {n : Int} : f141 stdOps fuel n = some (.v0 (badB n)) := by
  unfold f141 badB MAXN
  simp only [stdOps]
  by_cases h : n < 0 <;> simp [h]

/-! Lists of numbers: as many as there are partitions, each a count. -/
theorem f159_l0_is : ∀ (d f fuel i : Nat) (l : List Int), i + d = l.length → d < f → l.length < 2 ^ 60 →
    ∃ x, f159_l0 stdOps fuel (l.map iav) f (i : Int) = some x ∧ (((l.drop i).any badB = true ∧ ∃ j : Nat, x = .x0 (j : Int)) ∨ ((l.drop i).any badB = false ∧ x = .x1)) := by
  intro d
  induction d with
  | zero =>
    intro f fuel i l hi hf hl
    obtain ⟨f, rfl⟩ : ∃ g, f = g + 1 := ⟨f - 1, by omega⟩
    refine ⟨.x1, by rw [f159_l0, len_av, ifB_f (lss_f (by omega))], .inr ⟨?_, rfl⟩⟩
    rw [List.drop_of_length_le (by omega)]; rfl
  | succ d ih =>
    intro f fuel i l hi hf hl
    obtain ⟨f, rfl⟩ : ∃ g, f = g + 1 := ⟨f - 1, by omega⟩
    have hlt : i < l.length := by omega
    have hd := drop_all hlt
    rw [f159_l0, inbR hlt, len_av, ifB_t (lss_t hlt), getI hlt, bindR_eq f141_is]
    dsimp only
    cases hb : badB l[i] with
    | true => exact ⟨.x0 (i : Int), rfl, .inl ⟨by rw [hd, List.any_cons, hb]; rfl, i, rfl⟩⟩
    | false =>
      obtain ⟨x, h1, h2⟩ := ih f fuel (i + 1) l (by omega) (by omega) hl
      refine ⟨x, by rw [ifB_f rfl, add1 (by omega)]; exact h1, ?_⟩
      rw [hd, List.any_cons, hb, Bool.false_or]; exact h2
theorem f140_is {fuel : Nat} {l : List Int} (hf : l.length < fuel) (hl : l.length < 2 ^ 60) : f140 stdOps fuel (l.map iav) = some (.v0 (l.any badB)) := by
  obtain ⟨x, h1, h2⟩ := f159_l0_is l.length fuel fuel 0 l (by omega) hf hl
  rw [List.drop_zero] at h2
  unfold f140 f159
  rw [Int.ofNat_zero] at h1
  rw [h1]
  rcases h2 with ⟨h2, j, rfl⟩ | ⟨h2, rfl⟩
  · rw [h2]
    show some (F140R.v0 (stdOps.cmp .geq (j : Int) 0)) = _
    simp [stdOps]
  · rw [h2]; rfl
def cntB (l : List Int) (n : Int) : Bool := decide ((l.length : Int) = n) && !l.any badB
theorem f100_is {fuel : Nat} {l : List Int} {n : Int} (hf : l.length < fuel) (hl : l.length < 2 ^ 60) : f100 stdOps fuel (l.map iav) n = some (.v0 (cntB l n)) := by
  unfold f100 cntB
  rw [len_av, f140_is hf hl]
  by_cases h : (l.length : Int) = n
  · rw [ifB_t (by simp [stdOps, h])]; simp [bindR, stdOps, h]
  · rw [ifB_f (by simp [stdOps, h])]; simp [h]

/-! No number is less. -/
def abvB (a b : List Int) : Bool := decide (a.length = b.length) && (a.zip b).all fun p => decide (p.2 ≤ p.1)
theorem f46_l0_is : ∀ (d f fuel i : Nat) (a b : List Int), i + d = a.length → a.length = b.length → d < f → a.length < 2 ^ 60 →
    f46_l0 stdOps fuel (a.map iav) (b.map iav) f (i : Int) = some (cond (((a.drop i).zip (b.drop i)).all (fun p => decide (p.2 ≤ p.1))) .x1 .x0) := by
  intro d
  induction d with
  | zero =>
    intro f fuel i a b hi hab hf hl
    obtain ⟨f, rfl⟩ : ∃ g, f = g + 1 := ⟨f - 1, by omega⟩
    rw [f46_l0, len_av, ifB_f (lss_f (by omega)), List.drop_of_length_le (by omega)]; rfl
  | succ d ih =>
    intro f fuel i a b hi hab hf hl
    obtain ⟨f, rfl⟩ : ∃ g, f = g + 1 := ⟨f - 1, by omega⟩
    have h1 : i < a.length := by omega
    have h2 : i < b.length := by omega
    rw [f46_l0, inbR h1, len_av, ifB_t (lss_t h1), getI h1, inbR h2, getI h2, drop_all h1, drop_all h2]
    simp only [List.zip_cons_cons, List.all_cons]
    by_cases h : a[i] < b[i]
    · rw [ifB_t (by simp [stdOps, h])]
      have : decide (b[i] ≤ a[i]) = false := by simp; omega
      simp [this]
    · rw [ifB_f (by simp [stdOps]; omega), add1 (by omega), ih f fuel (i + 1) a b (by omega) hab (by omega) hl]
      have : decide (b[i] ≤ a[i]) = true := by simp; omega
      rw [this, Bool.true_and]
theorem f46_is {fuel : Nat} {a b : List Int} (hf : a.length < fuel) (hl : a.length < 2 ^ 60) : f46 stdOps fuel (a.map iav) (b.map iav) = some (.v0 (abvB a b)) := by
  unfold f46 abvB
  rw [len_av, len_av]
  by_cases h : a.length = b.length
  · have h0 := f46_l0_is a.length fuel fuel 0 a b (by omega) h hf hl
    rw [Int.ofNat_zero, List.drop_zero, List.drop_zero] at h0
    rw [ifB_f (by simp [stdOps, h]), h0]
    cases hb : (a.zip b).all (fun p => decide (p.2 ≤ p.1)) <;> simp [bindR, h]
  · rw [ifB_t (by simp [stdOps]; omega)]; simp [h]
theorem f29_l0_is : ∀ (d f fuel i : Nat) (a b : List Int), i + d = a.length → a.length = b.length → d < f → a.length < 2 ^ 60 →
    f29_l0 stdOps fuel (a.map iav) (b.map iav) f (i : Int) = some (cond (((a.drop i).zip (b.drop i)).all (fun p => decide (p.2 ≤ p.1))) .x1 .x0) := by
  intro d
  induction d with
  | zero =>
    intro f fuel i a b hi hab hf hl
    obtain ⟨f, rfl⟩ : ∃ g, f = g + 1 := ⟨f - 1, by omega⟩
    rw [f29_l0, len_av, ifB_f (lss_f (by omega)), List.drop_of_length_le (by omega)]; rfl
  | succ d ih =>
    intro f fuel i a b hi hab hf hl
    obtain ⟨f, rfl⟩ : ∃ g, f = g + 1 := ⟨f - 1, by omega⟩
    have h1 : i < a.length := by omega
    have h2 : i < b.length := by omega
    rw [f29_l0, inbR h1, len_av, ifB_t (lss_t h1), getI h1, inbR h2, getI h2, drop_all h1, drop_all h2]
    simp only [List.zip_cons_cons, List.all_cons]
    by_cases h : a[i] < b[i]
    · rw [ifB_t (by simp [stdOps, h])]
      have : decide (b[i] ≤ a[i]) = false := by simp; omega
      simp [this]
    · rw [ifB_f (by simp [stdOps]; omega), add1 (by omega), ih f fuel (i + 1) a b (by omega) hab (by omega) hl]
      have : decide (b[i] ≤ a[i]) = true := by simp; omega
      rw [this, Bool.true_and]
theorem f29_is {fuel : Nat} {a b : List Int} (hf : a.length < fuel) (hl : a.length < 2 ^ 60) : f29 stdOps fuel (a.map iav) (b.map iav) = some (.v0 (abvB a b)) := by
  unfold f29 abvB
  rw [len_av, len_av]
  by_cases h : a.length = b.length
  · have h0 := f29_l0_is a.length fuel fuel 0 a b (by omega) h hf hl
    rw [Int.ofNat_zero, List.drop_zero, List.drop_zero] at h0
    rw [ifB_f (by simp [stdOps, h]), h0]
    cases hb : (a.zip b).all (fun p => decide (p.2 ≤ p.1)) <;> simp [bindR, h]
  · rw [ifB_t (by simp [stdOps]; omega)]; simp [h]
/-! Equal lists. -/
theorem f28_l0_is : ∀ (d f fuel i : Nat) (a b : List Rec), i + d = a.length → a.length = b.length → d < f → a.length < 2 ^ 60 →
    f28_l0 stdOps fuel (a.map Rec.av) (b.map Rec.av) f (i : Int) = some (if a.drop i = b.drop i then .x1 else .x0) := by
  intro d
  induction d with
  | zero =>
    intro f fuel i a b hi hab hf hl
    obtain ⟨f, rfl⟩ : ∃ g, f = g + 1 := ⟨f - 1, by omega⟩
    rw [f28_l0, len_av, ifB_f (lss_f (by omega)), List.drop_of_length_le (by omega), List.drop_of_length_le (by omega)]; rfl
  | succ d ih =>
    intro f fuel i a b hi hab hf hl
    obtain ⟨f, rfl⟩ : ∃ g, f = g + 1 := ⟨f - 1, by omega⟩
    have h1 : i < a.length := by omega
    have h2 : i < b.length := by omega
    rw [f28_l0, inbR h1, len_av, ifB_t (lss_t h1), getR h1, inbR h2, getR h2, drop_all h1, drop_all h2]
    simp only [List.cons.injEq]
    by_cases h : a[i] = b[i]
    · rw [ifB_f (by simp [stdOps, h]), add1 (by omega), ih f fuel (i + 1) a b (by omega) hab (by omega) hl]
      simp [h]
    · have hne : ¬ (a[i].k = b[i].k ∧ a[i].v = b[i].v) := fun e => h (by cases ha : a[i]; cases hb : b[i]; rw [ha, hb] at e; simp only at e; rw [e.1, e.2])
      rw [ifB_t (by
        simp only [stdOps]
        by_cases h3 : a[i].k = b[i].k
        · have : ¬ a[i].v = b[i].v := fun e => hne ⟨h3, e⟩
          simp [h3, this]
        · simp [h3])]
      simp [h]
theorem f28_is {fuel : Nat} {a b : List Rec} (hf : a.length < fuel) (hl : a.length < 2 ^ 60) : f28 stdOps fuel (a.map Rec.av) (b.map Rec.av) = some (.v0 (decide (a = b))) := by
  unfold f28
  rw [len_av, len_av]
  by_cases h : a.length = b.length
  · have h0 := f28_l0_is a.length fuel fuel 0 a b (by omega) h hf hl
    rw [Int.ofNat_zero, List.drop_zero, List.drop_zero] at h0
    rw [ifB_f (by simp [stdOps, h]), h0]
    by_cases e : a = b <;> simp [bindR, e]
  · have e : a ≠ b := fun e => h (by rw [e])
    rw [ifB_t (by simp [stdOps]; omega)]; simp [e]

theorem f84_l0_is : ∀ (d f fuel i : Nat) (a b : List Rec), i + d = a.length → a.length = b.length → d < f → a.length < 2 ^ 60 →
    f84_l0 stdOps fuel (a.map Rec.av) (b.map Rec.av) f (i : Int) = some (if a.drop i = b.drop i then .x1 else .x0) := by
  intro d
  induction d with
  | zero =>
    intro f fuel i a b hi hab hf hl
    obtain ⟨f, rfl⟩ : ∃ g, f = g + 1 := ⟨f - 1, by omega⟩
    rw [f84_l0, len_av, ifB_f (lss_f (by omega)), List.drop_of_length_le (by omega), List.drop_of_length_le (by omega)]; rfl
  | succ d ih =>
    intro f fuel i a b hi hab hf hl
    obtain ⟨f, rfl⟩ : ∃ g, f = g + 1 := ⟨f - 1, by omega⟩
    have h1 : i < a.length := by omega
    have h2 : i < b.length := by omega
    rw [f84_l0, inbR h1, len_av, ifB_t (lss_t h1), getR h1, inbR h2, getR h2, drop_all h1, drop_all h2]
    simp only [List.cons.injEq]
    by_cases h : a[i] = b[i]
    · rw [ifB_f (by simp [stdOps, h]), add1 (by omega), ih f fuel (i + 1) a b (by omega) hab (by omega) hl]
      simp [h]
    · have hne : ¬ (a[i].k = b[i].k ∧ a[i].v = b[i].v) := fun e => h (by cases ha : a[i]; cases hb : b[i]; rw [ha, hb] at e; simp only at e; rw [e.1, e.2])
      rw [ifB_t (by
        simp only [stdOps]
        by_cases h3 : a[i].k = b[i].k
        · have : ¬ a[i].v = b[i].v := fun e => hne ⟨h3, e⟩
          simp [h3, this]
        · simp [h3])]
      simp [h]
theorem f84_is {fuel : Nat} {a b : List Rec} (hf : a.length < fuel) (hl : a.length < 2 ^ 60) : f84 stdOps fuel (a.map Rec.av) (b.map Rec.av) = some (.v0 (decide (a = b))) := by
  unfold f84
  rw [len_av, len_av]
  by_cases h : a.length = b.length
  · have h0 := f84_l0_is a.length fuel fuel 0 a b (by omega) h hf hl
    rw [Int.ofNat_zero, List.drop_zero, List.drop_zero] at h0
    rw [ifB_f (by simp [stdOps, h]), h0]
    by_cases e : a = b <;> simp [bindR, e]
  · have e : a ≠ b := fun e => h (by rw [e])
    rw [ifB_t (by simp [stdOps]; omega)]; simp [e]

theorem f62_l0_is : ∀ (d f fuel i : Nat) (a b : List Int), i + d = a.length → a.length = b.length → d < f → a.length < 2 ^ 60 →
    f62_l0 stdOps fuel (a.map iav) (b.map iav) f (i : Int) = some (if a.drop i = b.drop i then .x1 else .x0) := by
  intro d
  induction d with
  | zero =>
    intro f fuel i a b hi hab hf hl
    obtain ⟨f, rfl⟩ : ∃ g, f = g + 1 := ⟨f - 1, by omega⟩
    rw [f62_l0, len_av, ifB_f (lss_f (by omega)), List.drop_of_length_le (by omega), List.drop_of_length_le (by omega)]; rfl
  | succ d ih =>
    intro f fuel i a b hi hab hf hl
    obtain ⟨f, rfl⟩ : ∃ g, f = g + 1 := ⟨f - 1, by omega⟩
    have h1 : i < a.length := by omega
    have h2 : i < b.length := by omega
    rw [f62_l0, inbR h1, len_av, ifB_t (lss_t h1), getI h1, inbR h2, getI h2, drop_all h1, drop_all h2]
    simp only [List.cons.injEq]
    by_cases h : a[i] = b[i]
    · rw [ifB_f (by simp [stdOps, h]), add1 (by omega), ih f fuel (i + 1) a b (by omega) hab (by omega) hl]
      simp [h]
    · rw [ifB_t (by simp [stdOps, h])]
      simp [h]
theorem f62_is {fuel : Nat} {a b : List Int} (hf : a.length < fuel) (hl : a.length < 2 ^ 60) : f62 stdOps fuel (a.map iav) (b.map iav) = some (.v0 (decide (a = b))) := by
  unfold f62
  rw [len_av, len_av]
  by_cases h : a.length = b.length
  · have h0 := f62_l0_is a.length fuel fuel 0 a b (by omega) h hf hl
    rw [Int.ofNat_zero, List.drop_zero, List.drop_zero] at h0
    rw [ifB_f (by simp [stdOps, h]), h0]
    by_cases e : a = b <;> simp [bindR, e]
  · have e : a ≠ b := fun e => h (by rw [e])
    rw [ifB_t (by simp [stdOps]; omega)]; simp [e]

theorem f85_l0_is : ∀ (d f fuel i : Nat) (a b : List Int), i + d = a.length → a.length = b.length → d < f → a.length < 2 ^ 60 →
    f85_l0 stdOps fuel (a.map iav) (b.map iav) f (i : Int) = some (if a.drop i = b.drop i then .x1 else .x0) := by
  intro d
  induction d with
  | zero =>
    intro f fuel i a b hi hab hf hl
    obtain ⟨f, rfl⟩ : ∃ g, f = g + 1 := ⟨f - 1, by omega⟩
    rw [f85_l0, len_av, ifB_f (lss_f (by omega)), List.drop_of_length_le (by omega), List.drop_of_length_le (by omega)]; rfl
  | succ d ih =>
    intro f fuel i a b hi hab hf hl
    obtain ⟨f, rfl⟩ : ∃ g, f = g + 1 := ⟨f - 1, by omega⟩
    have h1 : i < a.length := by omega
    have h2 : i < b.length := by omega
    rw [f85_l0, inbR h1, len_av, ifB_t (lss_t h1), getI h1, inbR h2, getI h2, drop_all h1, drop_all h2]
    simp only [List.cons.injEq]
    by_cases h : a[i] = b[i]
    · rw [ifB_f (by simp [stdOps, h]), add1 (by omega), ih f fuel (i + 1) a b (by omega) hab (by omega) hl]
      simp [h]
    · rw [ifB_t (by simp [stdOps, h])]
      simp [h]
theorem f85_is {fuel : Nat} {a b : List Int} (hf : a.length < fuel) (hl : a.length < 2 ^ 60) : f85 stdOps fuel (a.map iav) (b.map iav) = some (.v0 (decide (a = b))) := by
  unfold f85
  rw [len_av, len_av]
  by_cases h : a.length = b.length
  · have h0 := f85_l0_is a.length fuel fuel 0 a b (by omega) h hf hl
    rw [Int.ofNat_zero, List.drop_zero, List.drop_zero] at h0
    rw [ifB_f (by simp [stdOps, h]), h0]
    by_cases e : a = b <;> simp [bindR, e]
  · have e : a ≠ b := fun e => h (by rw [e])
    rw [ifB_t (by simp [stdOps]; omega)]; simp [e]

def Txn.key (t : Txn) : Int × Int := (t.e, t.i)
def dM (l : List (Int × Int)) : List (AV × AV) := l.map fun k => (kav k, .bool true)
def pM (l : List Txn) : List (AV × AV) := l.map fun t => (kav t.key, t.av)

theorem keq_kav {a b : Int × Int} : keq (kav a) (kav b) = decide (a = b) := by
  obtain ⟨a1, a2⟩ := a
  obtain ⟨b1, b2⟩ := b
  show (keqC (.int .i64 a1) (.int .i64 b1) && (keqC (.int .i64 a2) (.int .i64 b2) && true)) = _
  simp only [keqC, Bool.and_true]
  by_cases h1 : a1 = b1 <;> by_cases h2 : a2 = b2 <;> simp [h1, h2]
theorem mok_kav {β : Type} {f : β → Int × Int} {g : β → AV} {l : List β} : stdOps.mok true [.int .i64, .int .i64] (l.map fun x => (kav (f x), g x)) := by
  intro x hx
  obtain ⟨y, _, rfl⟩ := List.mem_map.1 hx
  rfl
theorem mok_d {l : List (Int × Int)} : stdOps.mok true [.int .i64, .int .i64] (dM l) := mok_kav (f := id)
theorem mok_p {l : List Txn} : stdOps.mok true [.int .i64, .int .i64] (pM l) := mok_kav
theorem find_d {k : Int × Int} : ∀ {l : List (Int × Int)}, stdOps.mfind (dM l) (kav k) = if k ∈ l then some (.bool true) else none
  | [] => rfl
  | x :: l => by
    show (if keq (kav k) (kav x) then some (AV.bool true) else stdOps.mfind (dM l) (kav k)) = _
    rw [keq_kav, find_d]
    by_cases h : k = x <;> simp [h]
theorem find_p {k : Int × Int} : ∀ {l : List Txn}, stdOps.mfind (pM l) (kav k) = (l.find? fun t => decide (k = t.key)).map Txn.av
  | [] => rfl
  | x :: l => by
    show (if keq (kav k) (kav x.key) then some x.av else stdOps.mfind (pM l) (kav k)) = _
    rw [keq_kav, find_p, List.find?_cons]
    by_cases h : k = x.key <;> simp [h]
theorem put_d {k : Int × Int} : ∀ {l : List (Int × Int)}, k ∉ l → stdOps.mput (dM l) (kav k) (.bool true) = dM (l ++ [k])
  | [], _ => rfl
  | x :: l, h => by
    show (if keq (kav k) (kav x) then (kav k, AV.bool true) :: dM l else (kav x, AV.bool true) :: stdOps.mput (dM l) (kav k) (.bool true)) = _
    rw [keq_kav, put_d (fun e => h (by simp [e]))]
    have : k ≠ x := fun e => h (by simp [e])
    simp [this, dM]
theorem put_p {t : Txn} : ∀ {l : List Txn}, (l.find? fun u => decide (t.key = u.key)) = none → stdOps.mput (pM l) (kav t.key) t.av = pM (l ++ [t])
  | [], _ => rfl
  | x :: l, h => by
    rw [List.find?_cons] at h
    by_cases e : t.key = x.key
    · simp [e] at h
    · simp only [e, decide_false] at h
      show (if keq (kav t.key) (kav x.key) then (kav t.key, t.av) :: pM l else (kav x.key, x.av) :: stdOps.mput (pM l) (kav t.key) t.av) = _
      rw [keq_kav, put_p h]
      simp [e, pM]
theorem del_p {k : Int × Int} : ∀ {l : List Txn}, stdOps.mdel (pM l) (kav k) = pM (l.eraseP fun u => decide (k = u.key))
  | [] => rfl
  | x :: l => by
    show (if keq (kav k) (kav x.key) then pM l else (kav x.key, x.av) :: stdOps.mdel (pM l) (kav k)) = _
    rw [keq_kav, del_p, List.eraseP_cons]
    by_cases e : k = x.key <;> simp [e, pM]
theorem findD {α : Type} {l : List (Int × Int)} {a b : Int} {k : Bool → Option α} {z : Option α} : req (stdOps.mok true [.int .i64, .int .i64] (dM l)) (findA (stdOps.mfind (dM l) (.agg [.int .i64 a, .int .i64 b])) (fun e => sh4 e k) z) = if (a, b) ∈ l then k true else z := by
  rw [req_eq _ mok_d, show (AV.agg [.int .i64 a, .int .i64 b]) = kav (a, b) from rfl, find_d]
  by_cases h : (a, b) ∈ l <;> simp [h, findA, sh4]
theorem findP {α : Type} {l : List Txn} {a b : Int} {k : Int → Int → Int → List AV → List AV → Option α} {z : Option α} :
    req (stdOps.mok true [.int .i64, .int .i64] (pM l)) (findA (stdOps.mfind (pM l) (.agg [.int .i64 a, .int .i64 b])) (fun e => sh31 e k) z) =
      match l.find? (fun t => decide ((a, b) = t.key)) with | some t => k t.e t.i t.b (t.r.map Rec.av) (t.v.map iav) | none => z := by
  rw [req_eq _ mok_p, show (AV.agg [.int .i64 a, .int .i64 b]) = kav (a, b) from rfl, find_p]
  cases l.find? (fun t => decide ((a, b) = t.key)) <;> rfl

/-! Copies. -/
theorem f78_is {fuel : Nat} {l : List AV} (h : l.length ≤ 2 ^ 40) : f78 stdOps fuel l = some (.v0 l) := by
  have hr : stdOps.room [] l 8 := by show (([] : List AV).length + l.length) * 8 ≤ 2 ^ 47; simp only [List.length_nil]; omega
  unfold f78
  by_cases hx : l = []
  · subst hx
    refine (isNil_e ?_).trans rfl
    show some (F78R.v0 []) = req (stdOps.room [] [] 8) (some (.v0 (stdOps.apnd [] [])))
    rw [req_eq _ hr]; rfl
  · refine (isNil_m hx).trans ?_
    show req (stdOps.room [] l 8) (some (F78R.v0 (stdOps.apnd [] l))) = _
    rw [req_eq _ hr]; rfl
theorem f79_is {fuel : Nat} {l : List AV} (h : l.length ≤ 2 ^ 40) : f79 stdOps fuel l = some (.v0 l) := by
  have hr : stdOps.room [] l 16 := by show (([] : List AV).length + l.length) * 16 ≤ 2 ^ 47; simp only [List.length_nil]; omega
  unfold f79
  by_cases hx : l = []
  · subst hx
    refine (isNil_e ?_).trans rfl
    show some (F79R.v0 []) = req (stdOps.room [] [] 16) (some (.v0 (stdOps.apnd [] [])))
    rw [req_eq _ hr]; rfl
  · refine (isNil_m hx).trans ?_
    show req (stdOps.room [] l 16) (some (F79R.v0 (stdOps.apnd [] l))) = _
    rw [req_eq _ hr]; rfl
theorem f76_is {fuel : Nat} {t : Txn} (h1 : t.r.length ≤ 2 ^ 40) (h2 : t.v.length ≤ 2 ^ 40) : f76 stdOps fuel t.e t.i t.b (t.r.map Rec.av) (t.v.map iav) = some (.v0 t.e t.i t.b (t.r.map Rec.av) (t.v.map iav)) := by
  unfold f76
  rw [bindR_eq (f79_is (by simpa using h1))]
  dsimp only
  rw [bindR_eq (f78_is (by simpa using h2))]

/-! What may be; what is the same. -/
def mayB (n : Int) (t : Txn) : Bool := posB t.e && posB t.i && decide (0 ≤ t.b) && decide (t.b ≤ 4096) && decide (t.r.length ≤ 4096) && cntB t.v n
theorem f71_is {fuel p : Nat} {t : Txn} {n fe : Int} {out vec : List AV} {d q : List (AV × AV)} (hf : t.v.length < fuel) (hl : t.v.length < 2 ^ 60) :
    f71 stdOps fuel p t.e t.i t.b (t.r.map Rec.av) (t.v.map iav) n fe out vec d q = some (.v0 (mayB n t)) := by
  unfold f71 mayB
  rw [bindR_eq f86_is]
  dsimp only
  rw [len_av]
  cases h1 : posB t.e with
  | false => rw [ifB_f rfl]; simp [stdOps]
  | true =>
    rw [ifB_t rfl, bindR_eq f86_is]
    dsimp only
    cases h2 : posB t.i with
    | false => rw [ifB_f (by simp [stdOps])]; simp [stdOps]
    | true =>
      by_cases h3 : 0 ≤ t.b
      · by_cases h4 : t.b ≤ 4096
        · by_cases h5 : t.r.length ≤ 4096
          · have h5' : (t.r.length : Int) ≤ 4096 := by omega
            rw [ifB_t (by simp [stdOps, h3, h4, h5']), bindR_eq (f100_is hf hl)]
            simp [stdOps, h3, h4, h5, h5']
          · have h5' : ¬ (t.r.length : Int) ≤ 4096 := by omega
            rw [ifB_f (by simp [stdOps, h3, h4, h5'])]
            simp [stdOps, h5, h5']
        · rw [ifB_f (by simp [stdOps, h4])]; simp [stdOps, h4]
      · rw [ifB_f (by simp [stdOps, h3])]; simp [stdOps, h3]
theorem f102_is {fuel : Nat} {n : Int} : f102 stdOps fuel n = some (.v0 (!badB n)) := by
  unfold f102 badB MAXN
  simp only [stdOps]
  by_cases h : n ≥ 0
  · have h' : ¬ n < 0 := by omega
    by_cases h2 : n ≤ 9007199254740992 <;> simp [h, h', h2] <;> omega
  · have h' : n < 0 := by omega
    simp [h, h']
theorem f83_l0_is : ∀ (d f fuel i : Nat) (l : List Int) (n fe : Int) (a b c e : List AV), i + d = l.length → d < f → l.length < 2 ^ 60 →
    f83_l0 stdOps fuel (l.map iav) n fe a b c e f (i : Int) = some (cond ((l.drop i).any badB) .x0 .x1) := by
  intro d
  induction d with
  | zero =>
    intro f fuel i l n fe a b c e hi hf hl
    obtain ⟨f, rfl⟩ : ∃ g, f = g + 1 := ⟨f - 1, by omega⟩
    rw [f83_l0, len_av, ifB_f (lss_f (by omega)), List.drop_of_length_le (by omega)]; rfl
  | succ d ih =>
    intro f fuel i l n fe a b c e hi hf hl
    obtain ⟨f, rfl⟩ : ∃ g, f = g + 1 := ⟨f - 1, by omega⟩
    have hlt : i < l.length := by omega
    rw [f83_l0, inbR hlt, len_av, ifB_t (lss_t hlt), getI hlt, drop_all hlt, List.any_cons, bindR_eq f102_is]
    dsimp only
    cases hb : badB l[i] with
    | true => rw [ifB_t (by simp [stdOps])]; rfl
    | false => rw [ifB_f (by simp [stdOps]), add1 (by omega), ih f fuel (i + 1) l n fe a b c e (by omega) (by omega) hl, Bool.false_or]
theorem f83_is {fuel : Nat} {l : List Int} {n fe : Int} {a b c e : List AV} (hf : l.length < fuel) (hl : l.length < 2 ^ 60) : f83 stdOps fuel (l.map iav) n fe a b c e = some (.v0 (cntB l n)) := by
  unfold f83 cntB
  have h0 := f83_l0_is l.length fuel fuel 0 l n fe a b c e (by omega) hf hl
  rw [Int.ofNat_zero, List.drop_zero] at h0
  rw [len_av, h0]
  by_cases h : (l.length : Int) = n
  · rw [ifB_f (by simp [stdOps, h])]
    cases hb : l.any badB <;> simp [bindR, h]
  · rw [ifB_t (by simp [stdOps, h])]; simp [h]
theorem f21_is {fuel : Nat} {t : Txn} {n fe : Int} {a b c e : List AV} (hf : t.v.length < fuel) (hl : t.v.length < 2 ^ 60) :
    f21 stdOps fuel t.e t.i t.b (t.r.map Rec.av) (t.v.map iav) n fe a b c e = some (.v0 (mayB n t)) := by
  unfold f21 mayB
  rw [bindR_eq f82_is]
  dsimp only
  rw [len_av]
  cases h1 : posB t.e with
  | false => rw [ifB_f rfl]; simp
  | true =>
    rw [ifB_t rfl, bindR_eq f82_is]
    dsimp only
    cases h2 : posB t.i with
    | false => rw [ifB_f (by simp [stdOps])]; simp
    | true =>
      by_cases h3 : 0 ≤ t.b
      · by_cases h4 : t.b ≤ 4096
        · by_cases h5 : t.r.length ≤ 4096
          · have h5' : (t.r.length : Int) ≤ 4096 := by omega
            rw [ifB_t (by simp [stdOps, h3, h4, h5']), bindR_eq (f83_is hf hl)]
            simp [h3, h4, h5]
          · have h5' : ¬ (t.r.length : Int) ≤ 4096 := by omega
            rw [ifB_f (by simp [stdOps, h3, h4, h5'])]
            simp [h5]
        · rw [ifB_f (by simp [stdOps, h4])]; simp [h4]
      · rw [ifB_f (by simp [stdOps, h3])]; simp [h3]

/-! Same transactions. -/
theorem Txn.ext' {t u : Txn} (h1 : t.e = u.e) (h2 : t.i = u.i) (h3 : t.b = u.b) (h4 : t.r = u.r) (h5 : t.v = u.v) : t = u := by
  cases t; cases u; simp only at h1 h2 h3 h4 h5; subst h1 h2 h3 h4 h5; rfl
theorem f74_is {fuel : Nat} {t u : Txn} (hf : t.r.length < fuel ∧ t.v.length < fuel) (hl : t.r.length < 2 ^ 60 ∧ t.v.length < 2 ^ 60) :
    f74 stdOps fuel t.e t.i t.b (t.r.map Rec.av) (t.v.map iav) u.e u.i u.b (u.r.map Rec.av) (u.v.map iav) = some (.v0 (decide (t = u))) := by
  unfold f74
  rw [bindR_eq (show f73 stdOps fuel t.e t.i t.b (t.r.map Rec.av) (t.v.map iav) = some (.v0 t.e t.i) from rfl)]
  dsimp only
  rw [bindR_eq (show f73 stdOps fuel u.e u.i u.b (u.r.map Rec.av) (u.v.map iav) = some (.v0 u.e u.i) from rfl)]
  dsimp only
  by_cases h1 : t.e = u.e ∧ t.i = u.i ∧ t.b = u.b
  · obtain ⟨h1, h2, h3⟩ := h1
    rw [ifB_t (by simp [stdOps, h1, h2, h3]), bindR_eq (f28_is hf.1 hl.1)]
    dsimp only
    by_cases h4 : t.r = u.r
    · rw [ifB_t (by simp [stdOps, h1, h2, h3, h4]), bindR_eq (f62_is hf.2 hl.2)]
      by_cases h5 : t.v = u.v
      · have : t = u := Txn.ext' h1 h2 h3 h4 h5
        simp [stdOps, this]
      · have : t ≠ u := fun e => h5 (by rw [e])
        simp [stdOps, h5, this]
    · have : t ≠ u := fun e => h4 (by rw [e])
      rw [ifB_f (by simp [stdOps, h4])]; simp [stdOps, h4, this]
  · have : t ≠ u := fun e => h1 (by rw [e]; exact ⟨rfl, rfl, rfl⟩)
    rw [ifB_f (by
      simp only [stdOps]
      by_cases a1 : t.e = u.e <;> by_cases a2 : t.i = u.i <;> by_cases a3 : t.b = u.b <;> simp_all)]
    simp [stdOps, this]
end Go.Proofs.Ytjdbmfipciadfaa.A
