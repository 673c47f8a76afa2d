/- slices.Delete of one letter. -/
import Derived.Test.YtilffanmaicakaaLsSpec
import Derived.Test.YtilffanmaicakaaAmVecRules
namespace Go.Proofs.Ytilffanmaicakaa.A
open Go Go.Pt

def tabB : Nat → Ty := fun t => match Nat.beq t 42 with | true => { tab t with md := 2 } | false => tab t
theorem tabB_ok : TabOk Try.prog tabB := tab_ok.md 42 2 (by decide)
def tabA : Nat → Ty := fun t => match Nat.beq t 42 with | true => { tab t with md := 1 } | false => tab t
theorem tabA_ok : TabOk Try.prog tabA := tab_ok.md 42 1 (by decide)

theorem nat_cast (n : Nat) : @NatCast.natCast Int instNatCastInt n = Int.ofNat n := rfl

set_option maxHeartbeats 4000000 in
set_option maxRecDepth 100000 in
theorem delete_walk (xs : List AV) (n i j : Int) (hn : n = xs.length) (hi : 0 ≤ i ∧ i < n) (hj : j = i + 1) (hl : n ≤ 1000) (K E) (h : ∀ ys, ys.length = xs.length → ys.take (n - 1).toNat = xs.eraseIdx i.toNat → K (.vs 0 5 0 (n - 1) n) [.vec 5 ys]) : CallA Try.prog 63 [.vs 0 5 0 n n, .int .i64 i, .int .i64 j] [.vec 5 xs] K E := by
  refine call_fn (n₀ := 1) tabB_ok [] Try.func63 rfl rfl rfl rfl (by decide) ?_
  intro J hJ
  cbv
  repeat' (first
    | with_reducible exact id
    | exact trivial
    | intro hh
    | with_reducible refine And.intro ?_ ?_
    | (with_reducible first | refine awp_go ?_ | refine aops_go ?_ | refine strip_go ?_ | refine draw_go ?_ | refine frames_go ?_); cbv)
  all_goals subst hJ
  all_goals replace hn : n = (xs.length : Int) := hn
  all_goals have e1 : (0 + j + (n - j)).toNat = xs.length := by omega
  all_goals have e2 : (0 + j).toNat = i.toNat + 1 := by omega
  all_goals have e3 : (0 + i).toNat = i.toNat := by omega
  all_goals have e4 : ((List.drop (i.toNat + 1) xs).length : Int) = n - 1 - i := by simp; omega
  all_goals have e5 : (List.drop (i.toNat + 1) xs).length = xs.length - 1 - i.toNat := by simp; omega
  all_goals have e6 : i.toNat < xs.length := by omega
  all_goals try simp only [std, stdOps, e1, e2, e3, e4, List.take_length]
  all_goals try simp only [std, stdOps] at hh
  all_goals try omega
  · simp at hh; omega
  · simp; omega
  · have e7 : i + (n - 1 - i) = n - 1 := by omega
    have e8 : (0 + (n - 1)).toNat = (List.take i.toNat xs ++ List.drop (i.toNat + 1) xs).length := by simp; omega
    have e9 : (n - 1).toNat = (List.take i.toNat xs ++ List.drop (i.toNat + 1) xs).length := by simp; omega
    rw [e7]
    refine h _ ?_ ?_
    · simp; omega
    · rw [e8, List.take_left, e9, List.append_assoc, List.take_left, List.eraseIdx_eq_take_drop_succ]

/-- One letter is taken away: what is left is a row of its own. -/
theorem delete_call (xs : List AV) (n i j : Int) (hn : n = xs.length) (hi : 0 ≤ i ∧ i < n) (hj : j = i + 1) (hl : n ≤ 1000) (K E) (h : K (.vs 1 5 0 (n - 1) (n - 1)) [.dead, .vec 5 (xs.eraseIdx i.toNat)]) : CallA Try.prog 63 [.vs 0 5 0 n n, .int .i64 i, .int .i64 j] [.vec 5 xs] K E := by
  refine call_told (delete_walk xs n i j hn hi hj hl (fun r τ => ∃ ys, ys.length = xs.length ∧ ys.take (n - 1).toNat = xs.eraseIdx i.toNat ∧ r = .vs 0 5 0 (n - 1) n ∧ τ = [.vec 5 ys]) E fun ys h1 h2 => ⟨ys, h1, h2, rfl, rfl⟩) ?_
  rintro r τ ⟨ys, h1, h2, rfl, rfl⟩
  refine told_cut rfl (by omega) ?_
  rw [h2]
  exact h

theorem delete_at {J : Jd} {n₀ : Nat} (hJ : J = std Try.prog n₀) {id : Nat} {xs : List AV} {n i j : Int} {σ : List Ent} {K E} (hid : nth σ id = some (.vec 5 xs)) (hn : n = xs.length) (hi : 0 ≤ i ∧ i < n) (hj : j = i + 1) (hl : n ≤ 1000)
    (h : K (.vs (lenN σ) 5 0 (n - 1) (n - 1)) (snoc (setN σ id .dead) (.vec 5 (xs.eraseIdx i.toNat)))) : J.call 63 [.vs id 5 0 n n, .int .i64 i, .int .i64 j] σ K E := by
  have hlt : id < σ.length := by rw [nth_eq] at hid; exact lt_of_get hid
  refine call_in hJ [id] (by simp) (by simp [lenN_eq, Nat.blt_eq, hlt]) (args' := [.vs 0 5 0 n n, .int .i64 i, .int .i64 j]) (σ' := [.vec 5 xs]) ?_ ?_ (delete_call xs n i j hn hi hj hl _ _ ?_)
  · simp [ren, idx]
  · simp [pack, hid, entOr, renE]
  · have e1 : ren (up [id] (lenN σ)) 9 (.vs 1 5 0 (n - 1) (n - 1)) = .vs (lenN σ) 5 0 (n - 1) (n - 1) := by simp [ren, up, nth, lenN]
    have e2 : back [id] σ [.dead, .vec 5 (xs.eraseIdx i.toNat)] = snoc (setN σ id .dead) (.vec 5 (xs.eraseIdx i.toNat)) := by
      have key : ∀ (τ : List Ent) (k : Nat), updFrom [id] (lenN σ) [.dead, .vec 5 (xs.eraseIdx i.toNat)] k τ = if k ≤ id then setN τ (id - k) .dead else τ := by
        intro τ
        induction τ with
        | nil => intro k; simp [updFrom, setN]
        | cons e τ ih =>
          intro k
          simp only [updFrom, ih, idx]
          by_cases hk : id = k
          · subst hk; simp [renE, nth, entOr, setN]; intro hx; omega
          · have : Nat.beq id k = false := by cases hb : Nat.beq id k with | false => rfl | true => exact absurd (Nat.eq_of_beq_eq_true hb) hk
            simp only [this]
            by_cases hk' : k ≤ id
            · have : k + 1 ≤ id := by omega
              rw [if_pos this, if_pos hk']
              obtain ⟨m, hm⟩ : ∃ m, id - k = m + 1 := ⟨id - k - 1, by omega⟩
              have hm2 : id - (k + 1) = m := by omega
              rw [hm, hm2]; rfl
            · rw [if_neg (by omega), if_neg hk']
      simp only [back, key, Nat.zero_le, if_true, Nat.sub_zero, snoc_eq]
      simp [dropN, lenN, renE]
    rw [e1, e2]; exact h
end Go.Proofs.Ytilffanmaicakaa.A
