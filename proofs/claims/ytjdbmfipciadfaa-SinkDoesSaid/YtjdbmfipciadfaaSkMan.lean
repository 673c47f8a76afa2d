/- Contracts by hand: the names of a map. -/
import Derived.Test.YtjdbmfipciadfaaSkSortB

namespace Go.Proofs.Ytjdbmfipciadfaa.A
open Go Go.Pt

/-- Keys whose differences are no greater than numbers can be. -/
def KeysOk (es : List (AV × AV)) (ks : List (Int × Int)) : Prop := es.map Prod.fst = ks.map kav ∧ ks.Nodup ∧ ks.length < 2 ^ 42 ∧ ∀ k ∈ ks, 0 ≤ k.1 ∧ k.1 < 2 ^ 62 ∧ 0 ≤ k.2 ∧ k.2 < 2 ^ 62
noncomputable def namesF (es : List (AV × AV)) : Option (List AV) :=
  @dite _ (∃ ks, KeysOk es ks) (Classical.propDecidable _) (fun h => some (((Classical.choose h).mergeSort kle).map kav)) fun _ => none

theorem sort_perm {l k : List (Int × Int)} (h : l.Perm k) : l.mergeSort kle = k.mergeSort kle := by
  have total : ∀ a b : Int × Int, (kle a b || kle b a) = true := fun a b => by simp [kle]; omega
  have trans : ∀ a b c : Int × Int, kle a b = true → kle b c = true → kle a c = true := fun a b c h1 h2 => by simp [kle] at *; omega
  refine List.Perm.eq_of_pairwise (le := fun a b => kle a b = true) (fun a b _ _ h3 h4 => ?_) (List.pairwise_mergeSort (le := kle) trans total l) (List.pairwise_mergeSort (le := kle) trans total k) (((List.mergeSort_perm l kle).trans h).trans (List.mergeSort_perm k kle).symm)
  simp [kle] at h3 h4
  exact Prod.ext (by omega) (by omega)

theorem f151_call {g : Nat} (hg : CmpB g) (eg : ∀ args w, (callFunc g args).run Try.prog w = .ok (.enter g args) w) (l : List (Int × Int)) (hb : ∀ k ∈ l, 0 ≤ k.1 ∧ k.1 < 2 ^ 62 ∧ 0 ≤ k.2 ∧ k.2 < 2 ^ 62) (hl : l.length < 2 ^ 42) (q : Int) (hq : q = l.length)
    (K E : AV → List Ent → Prop) (h : ∀ r, K r [.vec 2 ((l.mergeSort kle).map kav)]) : CallA Try.prog 151 [.vs 0 2 0 q q, .func g []] [.vec 2 (l.map kav)] K E := by
  by_cases hne : l = []
  · subst hne
    simp only [List.length_nil] at hq
    have hq0 : q = 0 := by omega
    subst hq0
    exact f151_none K E fun r => by simpa using h r
  · exact f151_some hg eg l hb hl hne q hq K E (h .junk)

set_option maxHeartbeats 8000000 in
set_option maxRecDepth 100000 in
theorem f125_row {g c : Nat} (hg : Keys1 g) (hc : CmpB c) (eg : ∀ args w, (callFunc c args).run Try.prog w = .ok (.enter c args) w) (es : List (AV × AV)) (ks0 : List (Int × Int)) (hk : KeysOk es ks0) (K E : AV → List Ent → Prop)
    (h : ∀ q : Int, q = ks0.length → K (.vs 2 2 0 q q) [.mp es, .var [.mp 0], .vec 2 ((ks0.mergeSort kle).map kav)]) :
    CallA Try.prog 125 [.func g [.ptr 1 0], .func c []] [.mp es, .var [.mp 0]] K E := by
  refine call_fn (n₀ := 2) tabK_ok [2] Try.func125 rfl rfl rfl rfl (by decide) ?_
  intro J hJ
  cbv
  refine call_in hJ [0, 1] (by decide) rfl rfl rfl (f150_call hg es ks0 hk.1 hk.2.2.1 _ _ fun l q hq hl => ?_)
  have hb : ∀ k ∈ l, 0 ≤ k.1 ∧ k.1 < 2 ^ 62 ∧ 0 ≤ k.2 ∧ k.2 < 2 ^ 62 := fun k hk' => hk.2.2.2 k (hl.mem_iff.1 hk')
  have hlen : l.length < 2 ^ 42 := by rw [hl.length_eq]; exact hk.2.2.1
  have hs := f151_call hc eg l hb hlen q hq
  have hh := h q (by rw [hq, hl.length_eq])
  rw [← sort_perm hl] at hh
  generalize l.map kav = L at hs ⊢
  generalize (l.mergeSort kle).map kav = M at hs hh
  cbv
  refine call_in hJ [2] (by decide) rfl rfl rfl (hs _ _ fun r => ?_)
  cbv
  exact hh

theorem f125_call {g c : Nat} (hg : Keys1 g) (hc : CmpB c) (eg : ∀ args w, (callFunc c args).run Try.prog w = .ok (.enter c args) w) (es : List (AV × AV)) (ks0 : List (Int × Int)) (hk : KeysOk es ks0) (K E : AV → List Ent → Prop)
    (h : K (.sl 2 ((ks0.mergeSort kle).map kav) .no) [.mp es, .var [.mp 0], .dead]) :
    CallA Try.prog 125 [.func g [.ptr 1 0], .func c []] [.mp es, .var [.mp 0]] K E := by
  refine call_told (f125_row hg hc eg es ks0 hk (fun r τ => r = .vs 2 2 0 ks0.length ks0.length ∧ τ = [.mp es, .var [.mp 0], .vec 2 ((ks0.mergeSort kle).map kav)]) E fun q hq => by subst hq; exact ⟨rfl, rfl⟩) ?_
  rintro r τ ⟨rfl, rfl⟩
  refine told_sl rfl (Int.le_refl 0) (by simp) ?_
  rw [show ((((ks0.mergeSort kle).map kav).take (0 + (ks0.length : Int)).toNat).drop (0 : Int).toNat) = (ks0.mergeSort kle).map kav from by
    rw [List.take_of_length_le (by simp)]; rfl]
  exact h

inductive F80R where
  | v0 (y0 : List AV) (y1 : List (AV × AV))
def F80R.av : F80R → AV
  | .v0 y0 _ => .sl 2 y0 .no
def F80R.hp : F80R → List Ent
  | .v0 _ y1 => [.mp y1]
noncomputable def f80 (_o : Ops) (_fuel : Nat) (a0 : List (AV × AV)) : Option F80R := (namesF a0).map fun l => .v0 l a0
inductive F81R where
  | v0 (y0 : List AV) (y1 : List (AV × AV))
def F81R.av : F81R → AV
  | .v0 y0 _ => .sl 2 y0 .no
def F81R.hp : F81R → List Ent
  | .v0 _ y1 => [.mp y1]
noncomputable def f81 (_o : Ops) (_fuel : Nat) (a0 : List (AV × AV)) : Option F81R := (namesF a0).map fun l => .v0 l a0

set_option maxHeartbeats 8000000 in
set_option maxRecDepth 100000 in
theorem f126_call (es : List (AV × AV)) (K E : AV → List Ent → Prop) (h : K (.func 152 [.ptr 1 0]) [.mp es, .var [.mp 0]]) : CallA Try.prog 126 [.mp 0] [.mp es] K E := by
  refine call_fn (n₀ := 1) tabK_ok [1] Try.func126 rfl rfl rfl rfl (by decide) ?_
  intro J hJ
  cbv
  exact h
set_option maxHeartbeats 8000000 in
set_option maxRecDepth 100000 in
theorem f80_sorted (es : List (AV × AV)) (ks0 : List (Int × Int)) (hk : KeysOk es ks0) (K E : AV → List Ent → Prop) (h : K (.sl 2 ((ks0.mergeSort kle).map kav) .no) [.mp es]) : CallA Try.prog 80 [.mp 0] [.mp es] K E := by
  refine call_fn (n₀ := 1) tabK_ok [] Try.func80 rfl rfl rfl rfl (by decide) ?_
  intro J hJ
  have hs := f125_call keys_152 cmp_127 (enters_of Try.func127 (by kernel_rfl) rfl) es ks0 hk
  generalize (ks0.mergeSort kle).map kav = M at hs h
  cbv
  refine call_in hJ [0] (by decide) rfl rfl rfl (f126_call es _ _ ?_)
  cbv
  refine call_in hJ [0, 1] (by decide) rfl rfl rfl (hs _ _ ?_)
  cbv
  exact h
theorem f80_call (o : Ops) (_ho : o = stdOps) (fuel : Nat) (a0 : List (AV × AV)) {R : F80R} (H : f80 o fuel a0 = some R) (K : AV → List Ent → Prop) (E : AV → List Ent → Prop) (h : K R.av R.hp) : CallA Try.prog 80 [.mp 0] [.mp a0] K E := by
  unfold f80 namesF at H
  split at H
  · rename_i hx
    simp only [Option.map_some, Option.some.injEq] at H
    subst H
    exact f80_sorted a0 _ (Classical.choose_spec hx) K E h
  · simp at H

set_option maxHeartbeats 8000000 in
set_option maxRecDepth 100000 in
theorem f128_call (es : List (AV × AV)) (K E : AV → List Ent → Prop) (h : K (.func 153 [.ptr 1 0]) [.mp es, .var [.mp 0]]) : CallA Try.prog 128 [.mp 0] [.mp es] K E := by
  refine call_fn (n₀ := 1) tabK_ok [1] Try.func128 rfl rfl rfl rfl (by decide) ?_
  intro J hJ
  cbv
  exact h
set_option maxHeartbeats 8000000 in
set_option maxRecDepth 100000 in
theorem f81_sorted (es : List (AV × AV)) (ks0 : List (Int × Int)) (hk : KeysOk es ks0) (K E : AV → List Ent → Prop) (h : K (.sl 2 ((ks0.mergeSort kle).map kav) .no) [.mp es]) : CallA Try.prog 81 [.mp 0] [.mp es] K E := by
  refine call_fn (n₀ := 1) tabK_ok [] Try.func81 rfl rfl rfl rfl (by decide) ?_
  intro J hJ
  have hs := f125_call keys_153 cmp_129 (enters_of Try.func129 (by kernel_rfl) rfl) es ks0 hk
  generalize (ks0.mergeSort kle).map kav = M at hs h
  cbv
  refine call_in hJ [0] (by decide) rfl rfl rfl (f128_call es _ _ ?_)
  cbv
  refine call_in hJ [0, 1] (by decide) rfl rfl rfl (hs _ _ ?_)
  cbv
  exact h
theorem f81_call (o : Ops) (_ho : o = stdOps) (fuel : Nat) (a0 : List (AV × AV)) {R : F81R} (H : f81 o fuel a0 = some R) (K : AV → List Ent → Prop) (E : AV → List Ent → Prop) (h : K R.av R.hp) : CallA Try.prog 81 [.mp 0] [.mp a0] K E := by
  unfold f81 namesF at H
  split at H
  · rename_i hx
    simp only [Option.map_some, Option.some.injEq] at H
    subst H
    exact f81_sorted a0 _ (Classical.choose_spec hx) K E h
  · simp at H
end Go.Proofs.Ytjdbmfipciadfaa.A
