/- '==' of the model, where the abstract machine tells it. -/
import Derived.Test.YtilffanmaicakaaAmOps
namespace Go.Pt
open Go

def eqVL : TK → Value → Value → Option Bool
  | .int _, .int k a, .int k' b => if k = k' then some (a == b) else none
  | .bool, .bool a, .bool b => some (a == b)
  | .str, .string a, .string b => some (a == b)
  | .ptr _, .pointer none, .pointer b => some b.isNone
  | .ptr _, .pointer (some _), .pointer none => some false
  | .map _ _, .map none, .map b => some b.isNone
  | .map _ _, .map (some _), .map none => some false
  | .func, .nilFunc, .nilFunc => some true
  | .func, .nilFunc, .func _ _ _ => some false
  | .func, .func _ _ _, .nilFunc => some false
  | _, _, _ => none

def eqsV : List TK → List Value → List Value → Option Bool
  | [], [], [] => some true
  | k :: ks, x :: xs, y :: ys => match eqVL k x y with
    | none => none
    | some b => match eqsV ks xs ys with
      | none => none
      | some c => some (b && c)
  | _, _, _ => none

theorem eqsV_append : ∀ (l : List TK) {m : List TK} {xs xs' ys ys' : List Value} {b : Bool}, xs.length = l.length → ys.length = l.length → eqsV (l ++ m) (xs ++ xs') (ys ++ ys') = some b →
    ∃ c d, eqsV l xs ys = some c ∧ eqsV m xs' ys' = some d ∧ b = (c && d)
  | [], m, [], xs', [], ys', b, _, _, h => ⟨true, b, rfl, h, by simp⟩
  | k :: l, m, x :: xs, xs', y :: ys, ys', b, hx, hy, h => by
    simp only [List.cons_append, eqsV] at h
    cases h1 : eqVL k x y with
    | none => rw [h1] at h; simp at h
    | some b1 =>
      rw [h1] at h
      cases h2 : eqsV (l ++ m) (xs ++ xs') (ys ++ ys') with
      | none => rw [h2] at h; simp at h
      | some b2 =>
        rw [h2] at h
        obtain ⟨c, d, hc, hd, rfl⟩ := eqsV_append l (by simpa using hx) (by simpa using hy) h2
        simp only [Option.some.injEq] at h
        exact ⟨b1 && c, d, by simp [eqsV, h1, hc], hd, by rw [← h, Bool.and_assoc]⟩

def isAggT (P : Program) (t : TypeId) : Bool := ((P.underlying t).map aggOf).getD false

def asVal (P : Program) (t : TypeId) (xs : List Value) (x : Value) : Prop := if isAggT P t then x = .agg xs.toArray else xs = [x]

section
variable {P : Program} (w : World)

theorem eq_leaf {t : TypeId} {d : TypeDesc} (hu : P.underlying t = some d) (D : Nat) {x y : Value} {b : Bool} (h : eqVL (tkOf d) x y = some b) : (Op.equalIn (D + 1) t x y).run P w = .ok b w := by
  unfold eqVL at h
  split at h <;> first | (simp at h; done) | skip
  all_goals
    rename_i hk
    cases d <;> simp only [tkOf, reduceCtorEq] at hk
  all_goals first
    | (split at h
       · rename_i e; subst e; simp at h; subst h; exact run_equalIn_int w D t _ _ _ _ hu
       · simp at h)
    | (simp at h; subst h; simp [Op.equalIn, run_underlying hu]; done)

theorem run_part_agg {t : TypeId} {xs : Array Value} {off : Nat} {i : TypeInfo} (hi : P.info? t = some i) (hu : (P.underlying t).isSome) (ha : isAggT P t = true) : (part t xs off).run P w = .ok (.agg (xs.extract off (off + i.size))) w := by
  obtain ⟨d, hd⟩ := Option.isSome_iff_exists.1 hu
  have hs := run_sizeOf w hi
  simp only [Program.cellsOf, hi, Option.map_some, Option.getD_some] at hs
  simp only [isAggT, hd, Option.map_some, Option.getD_some] at ha
  cases d <;> simp only [aggOf, Bool.false_eq_true] at ha <;> simp [part, isAgg, run_underlying hd, hs]

theorem run_part_one {t : TypeId} {xs : Array Value} {off : Nat} {v : Value} (hu : (P.underlying t).isSome) (ha : isAggT P t = false) (hx : xs[off]? = some v) : (part t xs off).run P w = .ok v w := by
  obtain ⟨d, hd⟩ := Option.isSome_iff_exists.1 hu
  simp only [isAggT, hd, Option.map_some, Option.getD_some] at ha
  cases d <;> simp only [aggOf, reduceCtorEq] at ha <;> simp [part, isAgg, run_underlying hd, hx]

theorem leaves_und {d : Nat} {t : TypeId} {L : List TK} (h : leaves P d t = some L) : (P.underlying t).isSome := by
  cases d with
  | zero => simp [leaves] at h
  | succ d => simp only [leaves] at h; split at h <;> simp_all

theorem take_split {α : Type} (l : List α) (off m n : Nat) : (l.drop off).take (m + n) = (l.drop off).take m ++ (l.drop (off + m)).take n := by
  rw [List.take_add, List.drop_drop]

theorem eq_main : ∀ (d : Nat) {t : TypeId} {L : List TK}, leaves P d t = some L → ∀ (D : Nat), d ≤ D → ∀ {xs ys : List Value} {b : Bool}, xs.length = L.length → ys.length = L.length → eqsV L xs ys = some b →
    ∀ {x y : Value}, asVal P t xs x → asVal P t ys y → (Op.equalIn D t x y).run P w = .ok b w := by
  intro d
  induction d with
  | zero => intro t L h; simp [leaves] at h
  | succ d ih =>
    intro t L h D hD xs ys b hx hy he x y hax hay
    obtain ⟨D, rfl⟩ : ∃ m, D = m + 1 := ⟨D - 1, by omega⟩
    have leafy : ∀ {k : TypeDesc}, P.underlying t = some k → aggOf k = false → L = [tkOf k] → (Op.equalIn (D + 1) t x y).run P w = .ok b w := by
      intro k hk ha hL
      subst hL
      simp only [asVal, isAggT, hk, Option.map_some, Option.getD_some, ha, Bool.false_eq_true, if_false] at hax hay
      subst hax; subst hay
      simp only [eqsV] at he
      cases h1 : eqVL (tkOf k) x y with
      | none => rw [h1] at he; simp at he
      | some c => rw [h1] at he; simp at he; subst he; exact eq_leaf w hk D h1
    simp only [leaves] at h
    split at h
    · rename_i fs hu
      split at h
      · simp at h
      · rename_i hp
        simp only [asVal, isAggT, hu, Option.map_some, Option.getD_some, aggOf, if_true] at hax hay
        subst hax; subst hay
        have hf : P.fieldsOf t = fs := by simp [Program.fieldsOf, hu]
        rw [run_equalIn_struct w D t _ _ (by rw [hf]; exact hu) (by simpa using hp), hf]
        have key : ∀ (fl : List Field) (off : Nat) (L : List TK) (b : Bool), leavesF P (leaves P d) fl off = some L → eqsV L ((xs.drop off).take L.length) ((ys.drop off).take L.length) = some b → off + L.length ≤ xs.length → off + L.length ≤ ys.length →
            (Op.eqFields D xs.toArray ys.toArray fl).run P w = .ok b w := by
          intro fl
          induction fl with
          | nil => intro off L b hL he _ _; simp [leavesF] at hL; subst hL; simp [eqsV] at he; subst he; simp [Op.eqFields]
          | cons f fl ihf =>
            intro off L b hL he hlx hly
            simp only [leavesF] at hL
            split at hL
            · simp at hL
            · rename_i l hl
              split at hL
              case isFalse => simp at hL
              rename_i hc
              obtain ⟨hoff, hname, hsize⟩ := hc
              simp only [Option.map_eq_some_iff] at hL
              obtain ⟨m, hm, rfl⟩ := hL
              rw [List.length_append] at he hlx hly
              rw [take_split, take_split] at he
              obtain ⟨c, e, h1, h2, rfl⟩ := eqsV_append l (by simp; omega) (by simp; omega) he
              have hrest := ihf (off + l.length) m e hm h2 (by omega) (by omega)
              simp only [Option.map_eq_some_iff] at hsize
              obtain ⟨i, hi, hsz⟩ := hsize
              have hund := leaves_und hl
              have hpart : ∀ (zs : List Value), off + l.length ≤ zs.length → ∃ z, (part f.type zs.toArray f.offset).run P w = .ok z w ∧ asVal P f.type ((zs.drop off).take l.length) z := by
                intro zs hz
                cases ha : isAggT P f.type with
                | true =>
                  refine ⟨_, run_part_agg w hi hund ha, ?_⟩
                  simp only [asVal, ha, if_true, hsz, hoff]
                  congr 1
                  apply Array.ext'
                  simp [List.extract_eq_take_drop]
                | false =>
                  have l1 : l.length = 1 := by
                    cases d with
                    | zero => simp [leaves] at hl
                    | succ d =>
                      simp only [leaves] at hl
                      split at hl <;> first | (simp at hl; subst hl; rfl) | (simp at hl; done) | skip
                      rename_i hu'
                      simp [isAggT, hu', aggOf] at ha
                  have hlt : off < zs.length := by omega
                  refine ⟨zs[off], run_part_one w hund ha (by simp [hoff, hlt]), ?_⟩
                  simp only [asVal, ha, Bool.false_eq_true, if_false, l1]
                  rw [List.drop_eq_getElem_cons hlt, List.take_succ_cons, List.take_zero]
              obtain ⟨p, hp1, hp2⟩ := hpart xs (by omega)
              obtain ⟨q, hq1, hq2⟩ := hpart ys (by omega)
              have heq := ih hl D (by omega) (by simp; omega) (by simp; omega) h1 hp2 hq2
              rw [Op.eqFields]
              simp only [hname, ne_eq, not_false_eq_true, if_true, Sem.run_bind, hp1, hq1, heq, Result.andThen_ok]
              cases c
              · simp
              · simpa using hrest
        refine key fs.toList 0 L b h ?_ (by omega) (by omega)
        rw [List.drop_zero, List.drop_zero, List.take_of_length_le (by omega), List.take_of_length_le (by omega)]
        exact he
    all_goals first
      | (rename_i hu; simp at h; exact leafy hu rfl h.symm)
      | (simp at h; done)

end
end Go.Pt
