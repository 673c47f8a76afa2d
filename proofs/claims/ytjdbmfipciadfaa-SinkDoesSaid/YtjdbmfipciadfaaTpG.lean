/- The sink: a sink of what was kept, the program's and the document's. -/
import Derived.Test.YtjdbmfipciadfaaTpF

namespace Go.Proofs.Ytjdbmfipciadfaa.A
open Go Go.Pt
/-! From. -/
/-- What was kept of a sink. -/
structure Kp where
  fence : Int
  out : List Rec
  vec : List Int
  done : List Int
  pre : List Txn
def okK (n : Int) (x : Kp) : Prop := (1 ≤ n ∧ n ≤ 4) ∧ (0 ≤ x.fence ∧ x.fence ≤ MAXN) ∧ x.out.length ≤ 4096 ∧ cntB x.vec n = true ∧ x.pre.length ≤ 8 ∧ incB 0 x.done = true ∧ incT n x.fence x.done 0 x.pre = true ∧ (x.fence = 0 → x.out = [] ∧ x.done = [] ∧ ∀ v ∈ x.vec, v ≤ 0)
structure SmallK (x : Kp) : Prop where
  out : x.out.length < 2 ^ 41
  vec : x.vec.length < 2 ^ 41
  done : x.done.length < 2 ^ 41
  pre : x.pre.length < 2 ^ 41
  txn : ∀ t ∈ x.pre, t.v.length < 2 ^ 41
structure FuelK (fuel : Nat) (x : Kp) : Prop where
  a : 5000 < fuel
  vec : x.vec.length < fuel
  done : x.done.length < fuel
  pre : x.pre.length < fuel
  txn : ∀ t ∈ x.pre, t.v.length < fuel
def Kp.sk (x : Kp) : Sk := ⟨x.fence, x.out, x.vec, x.done.map fun i => (x.fence, i), x.pre⟩
def Kp.rf (x : Kp) : Rf := ⟨x.fence, x.out, x.vec, x.done, x.pre⟩
theorem pick_or {a b : Bool} (h : a = true ∨ b = true) : stdOps.pick a true b = true := by cases a <;> simp_all [stdOps]
theorem num_iff {n : Int} : (!badB n) = true ↔ 0 ≤ n ∧ n ≤ MAXN := by
  unfold badB; simp
theorem ok_pre {n : Int} {x : Kp} (h : incT n x.fence x.done 0 x.pre = true) (h0 : x.fence = 0) : x.pre = [] := by
  cases hp : x.pre with
  | nil => rfl
  | cons t l =>
    rw [hp] at h
    have h1 := incT_pos h t List.mem_cons_self
    have := (posB_iff.1 (mayB_pos h1.1).1).1
    omega
theorem f79_1_is {fuel : Nat} {l : List AV} (h : l.length ≤ 2 ^ 40) : f79_1 stdOps fuel l = some (.v0 l l.length) := by
  have hr : stdOps.room [] l 16 := room_ok (by simp only [List.length_nil]; omega)
  unfold f79_1
  by_cases hx : l = []
  · subst hx
    refine (isNil_e ?_).trans rfl
    show some (F79_1R.v0 [] 0) = req (stdOps.room [] [] 16) (some (.v0 (stdOps.apnd [] []) (stdOps.pos [] [])))
    rw [req_eq _ hr]; rfl
  · refine (isNil_m hx).trans ?_
    show req (stdOps.room [] l 16) (some (F79_1R.v0 (stdOps.apnd [] l) (stdOps.pos [] l))) = _
    rw [req_eq _ hr]
    simp [stdOps]
theorem f44_is {fuel : Nat} {n : Int} {x : Kp} (hs : SmallK x) (hf : FuelK fuel x) :
    (okK n x ∧ f44 stdOps fuel n x.fence (x.out.map Rec.av) (x.vec.map iav) (x.done.map iav) (x.pre.map Txn.av) = some (.v1 (x.out.map Rec.av) x.out.length (x.vec.map iav) (dM x.sk.done) (pM x.sk.pre))) ∨
    (¬ okK n x ∧ f44 stdOps fuel n x.fence (x.out.map Rec.av) (x.vec.map iav) (x.done.map iav) (x.pre.map Txn.av) = some .v0) := by
  obtain ⟨s1, s2, s3, s4, s5⟩ := hs
  obtain ⟨g0, g1, g2, g3, g4⟩ := hf
  unfold f44
  rw [bindR_eq f14_is]
  by_cases hn : 1 ≤ n ∧ n ≤ 4
  · rw [if_pos hn]
    dsimp only
    rw [len_av, len_av, len_av]
    by_cases h1 : (0 ≤ x.fence ∧ x.fence ≤ MAXN) ∧ x.out.length ≤ 4096
    · have h1' : 0 ≤ x.fence ∧ x.fence ≤ 9007199254740992 := h1.1
      rw [ifB_f (by simp [stdOps]; omega), bindR_eq (f100_is g1 (by omega))]
      dsimp only
      by_cases h2 : cntB x.vec n = true ∧ x.pre.length ≤ 8
      · rw [ifB_f (by simp [stdOps, h2.1]; omega)]
        have hvl := cntB_len h2.1
        have hsum : stdOps.ar .add .i64 (stdOps.ar .add .i64 (x.out.length : Int) (x.done.length : Int)) (x.pre.length : Int) = x.out.length + x.done.length + x.pre.length := by
          simp only [stdOps]; rw [wr_i64 (by rw [wr_i64] <;> omega) (by rw [wr_i64] <;> omega), wr_i64 (by omega) (by omega)]
        rw [hsum]
        have l0 := f44_l0_is (fe := x.fence) (n := n) (a2 := x.out.map Rec.av) (a3 := x.vec.map iav) (a5 := x.pre.map Txn.av) (r6 := []) (r8 := (List.replicate n.toNat (0 : Int)).map iav) (r7 := 0) (r10 := []) x.done.length fuel fuel 0 x.done 0 [] (by omega) (by omega) (by omega) (by simp)
        rw [List.drop_zero, List.nil_append] at l0
        change f44_l0 stdOps fuel _ _ _ _ _ _ _ _ _ _ fuel 0 0 [] = _ at l0
        have l1 := f44_l1_is (fe := x.fence) (n := n) (a2 := x.out.map Rec.av) (a3 := x.vec.map iav) (a4 := x.done.map iav) (r6 := []) (r8 := (List.replicate n.toNat (0 : Int)).map iav) (r7 := 0) (done := x.done) x.pre.length fuel fuel 0 x.pre 0 [] (by omega) (by omega) (by omega) (by omega) (by omega) (fun t ht => ⟨g4 t ht, by have := s5 t ht; omega⟩) (by simp)
        rw [List.drop_zero, List.nil_append] at l1
        change f44_l1 stdOps fuel _ _ _ _ _ _ _ _ _ _ fuel 0 0 [] = _ at l1
        have l2 := f44_l2_is (fe := x.fence) (n := n) (a2 := x.out.map Rec.av) (a3 := x.vec.map iav) (a5 := x.pre.map Txn.av) (r6 := []) (r8 := (List.replicate n.toNat (0 : Int)).map iav) (r7 := 0) (r10 := []) x.done.length fuel fuel 0 x.done 0 [] (by omega) (by omega) (by omega) (by simp)
        rw [List.drop_zero, List.nil_append] at l2
        change f44_l2 stdOps fuel _ _ _ _ _ _ _ _ _ _ fuel 0 0 [] = _ at l2
        have l3 := f44_l3_is (fe := x.fence) (n := n) (a2 := x.out.map Rec.av) (a3 := x.vec.map iav) (a4 := x.done.map iav) (r6 := []) (r8 := (List.replicate n.toNat (0 : Int)).map iav) (r7 := 0) (done := x.done) x.pre.length fuel fuel 0 x.pre 0 [] (by omega) (by omega) (by omega) (by omega) (by omega) (fun t ht => ⟨g4 t ht, by have := s5 t ht; omega⟩) (by simp)
        rw [List.drop_zero, List.nil_append] at l3
        change f44_l3 stdOps fuel _ _ _ _ _ _ _ _ _ _ fuel 0 0 [] = _ at l3
        have e79 := f79_1_is (fuel := fuel) (l := x.out.map Rec.av) (by rw [List.length_map]; omega)
        have e78 := f78_is (fuel := fuel) (l := x.vec.map iav) (by rw [List.length_map]; omega)
        have no : ∀ {c : Prop}, (okK n x → c) → ¬ c → ¬ okK n x := fun h h' e => h' (h e)
        by_cases h0 : x.fence = 0
        · by_cases hz : x.out.length + x.done.length + x.pre.length = 0
          · obtain ⟨m, e1, e2⟩ := f101_is (fuel := fuel) (l := x.vec) (by omega) (by omega) (by omega)
            rw [ifB_t (by simp [stdOps, h0]; omega), bindR_eq e1]
            dsimp only
            have ho : x.out = [] := List.eq_nil_of_length_eq_zero (by omega)
            have hd : x.done = [] := List.eq_nil_of_length_eq_zero (by omega)
            have hp : x.pre = [] := List.eq_nil_of_length_eq_zero (by omega)
            by_cases hm : 0 < m
            · refine .inr ⟨no (c := ∀ v ∈ x.vec, v ≤ 0) (fun h => (h.2.2.2.2.2.2.2 h0).2.2) (fun h => ?_), ?_⟩
              · obtain ⟨v, hv, hv0⟩ := e2.1 hm
                have := h v hv; omega
              · rw [ifB_t (by simp [stdOps, h0]; omega)]
            · rw [ifB_f (by simp [stdOps]; omega), bindR_eq l0, if_pos (by rw [hd]; rfl)]
              dsimp only
              rw [bindR_eq l1, if_pos (by rw [hp]; rfl)]
              dsimp only
              rw [bindR_eq e79]
              dsimp only
              rw [bindR_eq e78]
              refine .inl ⟨⟨hn, h1.1, h1.2, h2.1, h2.2, by rw [hd]; rfl, by rw [hp]; rfl, fun _ => ⟨ho, hd, fun v hv => ?_⟩⟩, ?_⟩
              · by_cases hv0 : v ≤ 0
                · exact hv0
                · exact absurd (e2.2 ⟨v, hv, by omega⟩) hm
              · simp [Kp.sk]
          · rw [ifB_f (by simp [stdOps, h0]; omega), ifB_t (by simp [stdOps, h0])]
            refine .inr ⟨fun h => hz ?_, rfl⟩
            obtain ⟨a1, a2, _⟩ := h.2.2.2.2.2.2.2 h0
            have a3 := ok_pre h.2.2.2.2.2.2.1 h0
            rw [a1, a2, a3]; rfl
        · rw [ifB_f (by simp [stdOps, h0]), ifB_f (by simp [stdOps, h0]), bindR_eq l2]
          by_cases hB : incB 0 x.done = true
          · rw [if_pos hB]
            dsimp only
            rw [bindR_eq l3]
            by_cases hT : incT n x.fence x.done 0 x.pre = true
            · rw [if_pos hT]
              dsimp only
              rw [bindR_eq e79]
              dsimp only
              rw [bindR_eq e78]
              exact .inl ⟨⟨hn, h1.1, h1.2, h2.1, h2.2, hB, hT, fun h => absurd h h0⟩, by simp [Kp.sk]⟩
            · rw [if_neg hT]
              exact .inr ⟨fun h => hT h.2.2.2.2.2.2.1, rfl⟩
          · rw [if_neg hB]
            exact .inr ⟨fun h => hB h.2.2.2.2.2.1, rfl⟩
      · rw [ifB_t (by
          simp only [stdOps]
          cases hc : cntB x.vec n with
          | false => rfl
          | true => have : ¬ x.pre.length ≤ 8 := fun h => h2 ⟨hc, h⟩
                    simp; omega)]
        exact .inr ⟨fun h => h2 ⟨h.2.2.2.1, h.2.2.2.2.1⟩, rfl⟩
    · rw [ifB_t (by
        have h1' : ¬ ((0 ≤ x.fence ∧ x.fence ≤ 9007199254740992) ∧ x.out.length ≤ 4096) := h1
        simp only [stdOps]
        by_cases a1 : x.fence < 0
        · simp [a1]
        · by_cases a2 : x.fence > 9007199254740992
          · simp [a2]
          · have : (x.out.length : Int) > 4096 := by omega
            simp [this])]
      exact .inr ⟨fun h => h1 ⟨h.2.1, h.2.2.1⟩, rfl⟩
  · rw [if_neg hn]
    exact .inr ⟨fun h => hn h.1, rfl⟩

end Go.Proofs.Ytjdbmfipciadfaa.A
