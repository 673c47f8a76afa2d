/- Contracts by hand: the sorted names of a map. -/import Derived.Test.YtjdbmfipciadfaaStCatP
import Derived.Test.YtjdbmfipciadfaaStSort
namespace Go.Proofs.Ytjdbmfipciadfaa.A
open Go Go.Pt Go.Proofs
theorem f155_none (K E : AV → List Ent → Prop) (h : K .junk [.vec 1 []]) : CallA Try.prog 155 [.vs 0 1 0 0 0] [.vec 1 []] K E := by
  refine ⟨⟨_, _, Try.func155, rfl, rfl⟩, fun ρ w vs hrel hvs => ?_⟩
  match vs, hvs with
  | [v], ⟨hv, _⟩ =>
    obtain ⟨_, ad, len, cap, rfl, hlen, hcap, _⟩ := val_vs hv
    have h0 : len = 0 := by omega
    subst h0
    have hb := Any.slices_Sort_string_none lays190 ad cap w
    change Calls Try.prog 155 _ _ _ at hb
    refine hb.mono ?_
    rintro e' w' ⟨rfl, rfl⟩
    exact ⟨ρ, _, Stp.refl _ _ _, hrel, .junk, h, Val.junk⟩
theorem f155_call (l : List ByteArray) (hl : l.length < 2 ^ 42) (q : Int) (hq : q = l.length) (K E : AV → List Ent → Prop) (h : K .junk [.vec 1 ((sortS l).map nav)]) : CallA Try.prog 155 [.vs 0 1 0 q q] [.vec 1 (l.map nav)] K E := by
  by_cases hne : l = []
  · subst hne
    simp only [List.length_nil] at hq
    have hq0 : q = 0 := by omega
    subst hq0
    exact f155_none K E (by rw [show sortS [] = [] from by simp [sortS, sortL]] at h; exact h)
  · exact f155_some l hl hne q hq K E h
def NamesOk (es : List (AV × AV)) (ks : List ByteArray) : Prop := es.map Prod.fst = ks.map nav ∧ ks.length < 2 ^ 42
theorem sortS_perm {l k : List ByteArray} (h : l.Perm k) : sortS l = sortS k := by
  have total : ∀ a b : List UInt8, (decide (a ≤ b) || decide (b ≤ a)) = true := fun a b => by
    rw [Bool.or_eq_true, decide_eq_true_eq, decide_eq_true_eq]; exact List.le_total a b
  have trans : ∀ a b c : List UInt8, decide (a ≤ b) = true → decide (b ≤ c) = true → decide (a ≤ c) = true := fun a b c h1 h2 => by
    rw [decide_eq_true_eq] at *; exact List.le_trans h1 h2
  unfold sortS sortL
  congr 1
  refine List.Perm.eq_of_pairwise (le := fun a b => decide (a ≤ b) = true) (fun a b _ _ h3 h4 => ?_) (List.pairwise_mergeSort (le := fun x y => decide (x ≤ y)) trans total _) (List.pairwise_mergeSort (le := fun x y => decide (x ≤ y)) trans total _)
    (((List.mergeSort_perm _ _).trans (h.map bl)).trans (List.mergeSort_perm _ _).symm)
  rw [decide_eq_true_eq] at h3 h4
  exact List.le_antisymm h3 h4
theorem sortS_length (l : List ByteArray) : (sortS l).length = l.length := by simp [sortS, sortL]
noncomputable def namesS (es : List (AV × AV)) : Option (List AV) :=
  @dite _ (∃ ks, NamesOk es ks) (Classical.propDecidable _) (fun h => some ((sortS (Classical.choose h)).map nav)) fun _ => none
theorem nav_inj {a b : List ByteArray} (h : a.map nav = b.map nav) : a = b := by
  have := congrArg (List.map unnav) h
  rw [List.map_map, List.map_map, show unnav ∘ nav = id from rfl, List.map_id, List.map_id] at this
  exact this
theorem namesS_is {es : List (AV × AV)} {ks : List ByteArray} (h : NamesOk es ks) : namesS es = some ((sortS ks).map nav) := by
  unfold namesS
  have hx : ∃ ks, NamesOk es ks := ⟨ks, h⟩
  rw [dif_pos hx]
  have h2 := Classical.choose_spec hx
  rw [nav_inj (h2.1.symm.trans h.1)]
set_option maxHeartbeats 8000000 in
set_option maxRecDepth 100000 in
theorem f135_row {g : Nat} (hg : Names1 g) (es : List (AV × AV)) (ks0 : List ByteArray) (hk : NamesOk es ks0) (K E : AV → List Ent → Prop)
    (h : ∀ q : Int, q = ks0.length → K (.vs 2 1 0 q q) [.var [.mp 1], .mp es, .vec 1 ((sortS ks0).map nav)]) :
    CallA Try.prog 135 [.func g [.ptr 0 0]] [.var [.mp 1], .mp es] K E := by
  refine call_fn (n₀ := 2) tabS_ok [2] Try.func135 rfl rfl rfl rfl (by decide) ?_
  intro J hJ
  cbv
  refine call_in hJ [1, 0] (by decide) rfl rfl rfl (f154_call hg es ks0 hk.1 hk.2 _ _ fun l q hq hl => ?_)
  have hlen : l.length < 2 ^ 42 := by rw [hl.length_eq]; exact hk.2
  have hs := f155_call l hlen q hq
  have hh := h q (by rw [hq, hl.length_eq])
  rw [← sortS_perm hl] at hh
  generalize l.map nav = L at hs ⊢
  generalize (sortS l).map nav = M at hs hh
  cbv
  refine call_in hJ [2] (by decide) rfl rfl rfl (hs _ _ ?_)
  cbv
  exact hh
inductive F135R where
  | v0 (y0 : List AV) (y1 : List (AV × AV))
def F135R.av : F135R → AV
  | .v0 y0 _ => .sl 1 y0 .no
def F135R.hp : F135R → List Ent
  | .v0 _ y1 => [.var [.mp 1], .mp y1, .dead]
noncomputable def f135 (_o : Ops) (_fuel : Nat) (a0 : List (AV × AV)) : Option F135R := (namesS a0).map fun l => .v0 l a0
theorem f135_call (o : Ops) (_ho : o = stdOps) (fuel : Nat) (a0 : List (AV × AV)) {R : F135R} (H : f135 o fuel a0 = some R) (K : AV → List Ent → Prop) (E : AV → List Ent → Prop) (h : K R.av R.hp) : CallA Try.prog 135 [.func 156 [.ptr 0 0]] [.var [.mp 1], .mp a0] K E := by
  unfold f135 at H
  obtain ⟨l, hl, rfl⟩ := Option.map_eq_some_iff.1 H
  unfold namesS at hl
  split at hl
  case isFalse => exact nomatch hl
  rename_i hx
  simp only [Option.some.injEq] at hl
  subst hl
  have hk := Classical.choose_spec hx
  generalize Classical.choose hx = ks at hk h ⊢
  refine call_told (f135_row keys_156 a0 ks hk (fun r τ => r = .vs 2 1 0 ks.length ks.length ∧ τ = [.var [.mp 1], .mp a0, .vec 1 ((sortS ks).map nav)]) E fun q hq => by subst hq; exact ⟨rfl, rfl⟩) ?_
  rintro r τ ⟨rfl, rfl⟩
  refine told_sl rfl (Int.le_refl 0) (by simp [sortS_length]) ?_
  rw [show ((((sortS ks).map nav).take (0 + (ks.length : Int)).toNat).drop (0 : Int).toNat) = (sortS ks).map nav from by
    rw [List.take_of_length_le (by simp [sortS_length])]; rfl]
  exact h
end Go.Proofs.Ytjdbmfipciadfaa.A
