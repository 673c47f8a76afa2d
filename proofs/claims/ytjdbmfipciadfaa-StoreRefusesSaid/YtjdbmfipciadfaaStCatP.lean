/- slices.Concat at bytes: its contract. -/import Derived.Test.YtjdbmfipciadfaaStCat
import Derived.Test.YtjdbmfipciadfaaMa4
namespace Go.Proofs.Ytjdbmfipciadfaa.A
open Go Go.Pt C
def joinA : List AV → Option (List AV)
  | [] => some []
  | .sl 1 ys .no :: r => (joinA r).map (ys ++ ·)
  | _ => none
def slV1 (x : List AV) : AV := .sl 1 x .no
theorem joinA_is : ∀ {a : List AV} {l : List AV}, joinA a = some l → ∃ xs : List (List AV), a = xs.map slV1 ∧ l = xs.flatten
  | [], l, h => ⟨[], rfl, by simp [joinA] at h; simp [h]⟩
  | x :: r, l, h => by
    unfold joinA at h
    split at h
    · rename_i e; simp at e
    · rename_i ys r' e
      obtain ⟨rfl, rfl⟩ := List.cons.inj e
      obtain ⟨m, hm, rfl⟩ := Option.map_eq_some_iff.1 h
      obtain ⟨xs, rfl, rfl⟩ := joinA_is hm
      exact ⟨ys :: xs, rfl, rfl⟩
    · exact nomatch h
theorem joinA_map : ∀ xs : List (List AV), joinA (xs.map slV1) = some xs.flatten
  | [] => rfl
  | x :: xs => by simp only [List.map_cons, slV1, joinA, joinA_map xs, List.flatten_cons, Option.map_some]
theorem cat_l0 {f : Nat} : ∀ (rest pre : List (List AV)) (n : Nat) (w : Int), rest.length < n → 0 ≤ w → w + rest.flatten.length ≤ 2 ^ 60 → (pre ++ rest).length ≤ 2 ^ 60 →
    f139c_l0 stdOps f ((pre ++ rest).map slV1) n w pre.length = some (.x0 (w + rest.flatten.length))
  | [], pre, n + 1, w, hn, h0, h1, h2 => by
    rw [f139c_l0, ifB_f (by simp [stdOps])]; simp
  | x :: rest, pre, n + 1, w, hn, h0, h1, h2 => by
    have hl : (x :: rest).flatten.length = x.length + rest.flatten.length := by simp
    have hp : (pre ++ x :: rest).length = pre.length + rest.length + 1 := by simp; omega
    simp only [List.length_cons] at hn
    have hadd : stdOps.ar .add .i64 w (stdOps.len x) = w + x.length := wr_i64 (by simp [stdOps]; omega) (by simp [stdOps]; omega)
    have hidx : stdOps.ar .add .i64 (pre.length : Int) 1 = ((pre ++ [x]).length : Int) := by
      rw [show stdOps.ar .add .i64 (pre.length : Int) 1 = (pre.length : Int) + 1 from wr_i64 (by omega) (by omega)]; simp
    rw [f139c_l0, ifB_t (by simp [stdOps]; omega), req_eq _ (by simp [stdOps]; omega), getA_eq (v := slV1 x) (by simp [stdOps])]
    simp only [slV1, sh69]
    rw [ifB_f (by rw [hadd]; simp [stdOps]; omega), hadd, hidx]
    have := cat_l0 (f := f) rest (pre ++ [x]) n (w + x.length) (by omega) (by omega) (by omega) (by simpa using h2)
    rw [List.append_assoc, List.singleton_append] at this
    refine this.trans ?_
    rw [hl]; congr 2; omega
theorem cat_l1 {f N : Nat} : ∀ (rest pre : List (List AV)) (n : Nat) (row : List AV), rest.length < n → row.length = N → N ≤ 2 ^ 40 → pre.flatten.length + rest.flatten.length = N → row.take pre.flatten.length = pre.flatten → (pre ++ rest).length ≤ 2 ^ 60 →
    f139c_l1 stdOps f ((pre ++ rest).map slV1) 0 N n pre.flatten.length pre.length row = some (.x0 N (pre ++ rest).flatten)
  | [], pre, n + 1, row, hn, hr, hN, hs, ht, h2 => by
    rw [f139c_l1, ifB_f (by simp [stdOps])]
    simp only [List.flatten_nil, List.length_nil, Nat.add_zero] at hs
    rw [hs, List.take_of_length_le (by omega)] at ht
    rw [ht, hs]; simp
  | x :: rest, pre, n + 1, row, hn, hr, hN, hs, ht, h2 => by
    have hl : (x :: rest).flatten.length = x.length + rest.flatten.length := by simp
    have hp : (pre ++ x :: rest).length = pre.length + rest.length + 1 := by simp; omega
    simp only [List.length_cons] at hn
    have hidx : stdOps.ar .add .i64 (pre.length : Int) 1 = ((pre ++ [x]).length : Int) := by
      rw [show stdOps.ar .add .i64 (pre.length : Int) 1 = (pre.length : Int) + 1 from wr_i64 (by omega) (by omega)]; simp
    have hsum : stdOps.sum (pre.flatten.length : Int) (stdOps.len x) = ((pre ++ [x]).flatten.length : Int) := by simp [stdOps]
    rw [f139c_l1, ifB_t (by simp [stdOps]; omega), req_eq _ (by simp [stdOps]; omega), getA_eq (v := slV1 x) (by simp [stdOps])]
    simp only [slV1, sh69]
    refine req_is (show (0 : Int) ≤ 0 by omega) <| req_is (show (0 : Int) ≤ pre.flatten.length by omega) <| req_is (show (0 : Int) + pre.flatten.length + x.length ≤ N by omega) <| req_is (show (0 : Int) + pre.flatten.length + x.length ≤ row.length by omega) <|
      req_is (show (row.length + x.length) * 1 ≤ 2 ^ 47 by omega) ?_
    rw [hidx, hsum]
    have hlay : stdOps.lay row (stdOps.sum 0 (pre.flatten.length : Int)) x = pre.flatten ++ x ++ row.drop (pre.flatten.length + x.length) := by
      show row.take ((0 : Int) + pre.flatten.length).toNat ++ x ++ row.drop (((0 : Int) + pre.flatten.length).toNat + x.length) = _
      rw [show ((0 : Int) + pre.flatten.length).toNat = pre.flatten.length by omega, ht]
    rw [hlay]
    have hfl : (pre ++ [x]).flatten = pre.flatten ++ x := by simp
    have hfn : (pre ++ [x]).flatten.length = pre.flatten.length + x.length := by rw [hfl, List.length_append]
    have := cat_l1 (f := f) (N := N) rest (pre ++ [x]) n (pre.flatten ++ x ++ row.drop (pre.flatten.length + x.length)) (by omega) (by rw [List.length_append, List.length_append, List.length_drop]; omega) hN (by omega)
      (by rw [hfn, hfl, ← List.length_append, List.take_left]) (by simpa using h2)
    rw [List.append_assoc, List.singleton_append] at this
    exact this
theorem cat_l2 {f : Nat} : ∀ (rest pre : List (List AV)) (n : Nat), rest.length < n → (pre ++ rest).flatten = [] → (pre ++ rest).length ≤ 2 ^ 60 →
    f139c_l2 stdOps f ((pre ++ rest).map slV1) n 0 pre.length [] = some (.x0 0 [])
  | [], pre, n + 1, hn, hs, h2 => by rw [f139c_l2, ifB_f (by simp [stdOps])]
  | x :: rest, pre, n + 1, hn, hs, h2 => by
    have hx : x = [] := by
      have : (pre ++ x :: rest).flatten = pre.flatten ++ (x ++ rest.flatten) := by simp
      rw [this] at hs
      exact (List.append_eq_nil_iff.1 (List.append_eq_nil_iff.1 hs).2).1
    subst hx
    have hp : (pre ++ [] :: rest).length = pre.length + rest.length + 1 := by simp; omega
    simp only [List.length_cons] at hn
    have hidx : stdOps.ar .add .i64 (pre.length : Int) 1 = ((pre ++ [([] : List AV)]).length : Int) := by
      rw [show stdOps.ar .add .i64 (pre.length : Int) 1 = (pre.length : Int) + 1 from wr_i64 (by omega) (by omega)]; simp
    rw [f139c_l2, ifB_t (by simp [stdOps]; omega), req_eq _ (by simp [stdOps]; omega), getA_eq (v := slV1 []) (by simp [stdOps])]
    simp only [slV1, sh69]
    refine req_is (show (0 : Int) ≤ 0 by omega) <| req_is (show (0 : Int) ≤ 0 by omega) <| req_is (show (0 : Int) + 0 + (0 : Nat) ≤ 0 by omega) <| req_is (show (0 : Int) + 0 + (0 : Nat) ≤ (0 : Nat) by omega) <|
      req_is (show (0 + 0) * 1 ≤ 2 ^ 47 by omega) ?_
    rw [hidx]
    have := cat_l2 (f := f) rest (pre ++ [[]]) n (by omega) (by simpa using hs) (by simpa using h2)
    rw [List.append_assoc, List.singleton_append] at this
    exact this
theorem cat_is (xs : List (List AV)) (f : Nat) (hf : xs.length < f) (hl : xs.flatten.length ≤ 2 ^ 40) (hx : xs.length ≤ 2 ^ 60) :
    f139c stdOps f (xs.map slV1) = some (.v0 0 xs.flatten.length xs.flatten.length xs.flatten) := by
  have h0 : f139c_l0 stdOps f (xs.map slV1) f 0 0 = some (.x0 (0 + xs.flatten.length)) := cat_l0 (f := f) xs [] f 0 hf (by omega) (by omega) (by simpa using hx)
  have e1 : stdOps.ar .sub .i64 0 0 = 0 := show IntKind.i64.wrap ((0 : Int) - 0) = 0 by decide
  have e2 : stdOps.ar .sub .i64 (xs.flatten.length : Int) 0 = xs.flatten.length := by
    have : stdOps.ar .sub .i64 (xs.flatten.length : Int) 0 = (xs.flatten.length : Int) - 0 := wr_i64 (by omega) (by omega)
    rw [this]; omega
  rw [f139c, bindR_eq h0]
  simp only [Int.zero_add]
  by_cases hz : xs.flatten.length = 0
  · have hg : f158c stdOps f (xs.flatten.length : Int) = some .v1 := by
      rw [f158c, ifB_f (by simp only [stdOps, decide_eq_false_iff_not]; omega), e1, e2, ifB_f (by simp only [stdOps, decide_eq_false_iff_not]; omega)]
    rw [bindR_eq hg]
    have hn : xs.flatten = [] := List.length_eq_zero_iff.1 hz
    have h2 : f139c_l2 stdOps f (xs.map slV1) f 0 0 [] = some (.x0 0 []) := cat_l2 (f := f) xs [] f hf (by simpa using hn) (by simpa using hx)
    simp only
    rw [bindR_eq h2, hn]
    rfl
  · have hg : f158c stdOps f (xs.flatten.length : Int) = some (.v0 0 0 xs.flatten.length (List.replicate xs.flatten.length (.int .u8 0))) := by
      rw [f158c, ifB_f (by simp only [stdOps, decide_eq_false_iff_not]; omega), e1, e2, ifB_t (by simp only [stdOps, decide_eq_true_eq]; omega)]
      refine req_is (show (0 : Int) ≤ 0 by omega) <| req_is (show (0 : Int) ≤ (0 : Nat) by omega) <| req_is (show (xs.flatten.length : Int) = xs.flatten.length ∧ 0 ≤ (xs.flatten.length : Int) ∧ (xs.flatten.length : Int) * (1 : Nat) ≤ 2 ^ 47 from ⟨rfl, by omega, by omega⟩) <|
        req_is (show (0 : Int) ≤ 0 by omega) <| req_is (show (0 : Int) + 0 ≤ xs.flatten.length by omega) ?_
      simp [stdOps]
    rw [bindR_eq hg]
    have h1 : f139c_l1 stdOps f (xs.map slV1) 0 xs.flatten.length f 0 0 (List.replicate xs.flatten.length (.int .u8 0)) = some (.x0 xs.flatten.length xs.flatten) := cat_l1 (f := f) (N := xs.flatten.length) xs [] f (List.replicate xs.flatten.length (.int .u8 0)) hf (by simp) hl (by simp) (by simp) (by simpa using hx)
    simp only
    rw [bindR_eq h1]
inductive F139R where
  | v0 (y0 : List AV)
def F139R.av : F139R → AV
  | .v0 y0 => .sl 1 y0 .no
def F139R.hp : F139R → List Ent
  | .v0 _ => [.dead]
def f139 (_o : Ops) (_fuel : Nat) (a0 : List AV) : Option F139R := match joinA a0 with
  | some l => if l.length ≤ 2 ^ 40 ∧ a0.length ≤ 2 ^ 60 then some (.v0 l) else none
  | none => none
theorem f139_call (o : Ops) (_ho : o = stdOps) (fuel : Nat) (a0 : List AV) {t : Tok} {R : F139R} (H : f139 o fuel a0 = some R) (K : AV → List Ent → Prop) (E : AV → List Ent → Prop) (h : K R.av R.hp) : CallA Try.prog 139 [.sl 1 a0 t] [] K E := by
  unfold f139 at H
  split at H
  case h_2 => exact nomatch H
  rename_i l hl
  split at H
  case isFalse => exact nomatch H
  rename_i hb
  simp only [Option.some.injEq] at H
  subst H
  obtain ⟨xs, rfl, rfl⟩ := joinA_is hl
  refine call_weak (P := Try.prog) (n₀ := 0) (J := std Try.prog 0) rfl (args' := [.sl 1 (xs.map slV1) .no]) ⟨Wk.no, trivial⟩ ?_
  show CallA Try.prog 139 _ _ _ _
  refine call_told (f139c_call stdOps rfl (xs.length + 1) _ (cat_is xs _ (by omega) hb.1 (by simpa using hb.2)) (fun r τ => r = .vs 0 1 0 xs.flatten.length xs.flatten.length ∧ τ = [.vec 1 xs.flatten]) E ⟨rfl, rfl⟩) ?_
  rintro r τ ⟨rfl, rfl⟩
  refine told_sl rfl (Int.le_refl 0) (by simp) ?_
  rw [show ((xs.flatten.take (0 + (xs.flatten.length : Int)).toNat).drop (0 : Int).toNat) = xs.flatten from by
    rw [List.take_of_length_le (by simp)]; rfl]
  exact h
end Go.Proofs.Ytjdbmfipciadfaa.A
