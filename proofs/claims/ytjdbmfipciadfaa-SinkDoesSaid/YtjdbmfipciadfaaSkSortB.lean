/- slices.SortFunc on an empty row. -/
import Derived.Test.YtjdbmfipciadfaaSkSort

namespace Go.Proofs.Ytjdbmfipciadfaa.A
open Go Go.Pt

theorem loop_once {P : Program} {n₀ : Nat} {tab : Nat → Ty} {J : Jd} (hJ : J = std P n₀) (ht : TabOk P tab) {c : Code} {Q : Ex → St → Prop} {s : St} (h : awp J tab c (thenQ (fun _ => False) Q) s) : J.code (.loop c) Q s := by
  subst hJ
  intro rd ρ a w hn hrd hs
  refine Go.Pt.wp_loop (fun (_ : Unit) a' w' => a' = a ∧ w' = w) (fun _ => 0) ?_ () a w ⟨rfl, rfl⟩
  rintro _ _ _ ⟨rfl, rfl⟩
  refine wpIn_mono (awp_sound ht _ _ _ h rd ρ _ _ hn hrd hs) fun e a' w' hp => .inr ?_
  obtain ⟨x, s', ρ', h1, h2, h3, h4⟩ := hp
  cases x with
  | normal => exact h1.elim
  | exit i => simp only [exOk] at h2; subst h2; exact ⟨by simp, by simp, .exit i, s', ρ', h1, rfl, h3, h4⟩
  | ret => simp only [exOk] at h2; subst h2; exact ⟨by simp, by simp, .ret, s', ρ', h1, rfl, h3, h4⟩
  | pan v => obtain ⟨u, rfl, hu⟩ := h2; exact ⟨by simp, by simp, .pan v, s', ρ', h1, ⟨u, rfl, hu⟩, h3, h4⟩

theorem f163_call (x : Int) (hx : x = 0) (K E : AV → List Ent → Prop) (h : K (.int .i64 0) []) : CallA Try.prog 163 [.int .u64 x] [] K E := by
  subst hx
  refine ⟨⟨_, _, Try.func163, rfl, rfl⟩, fun ρ w vs hrel hvs => ?_⟩
  match vs, hvs with
  | [v], ⟨hv, _⟩ =>
    rw [val_int hv]
    have hb := Any.bits_Len (SlLaysF0.n15.bits (P := Try.prog) (ρ := sortB_ren) { sortB with }) 0 w (by omega) (by omega)
    change Calls Try.prog 163 _ _ _ at hb
    refine hb.mono ?_
    rintro e w' ⟨rfl, rfl⟩
    exact ⟨ρ, [], Stp.refl _ _ _, hrel, _, h, ⟨1, rfl⟩⟩

set_option maxHeartbeats 8000000 in
set_option maxRecDepth 100000 in
theorem f166_none {g : Nat} (K E : AV → List Ent → Prop) (h : ∀ r, K r [.vec 2 []]) : CallA Try.prog 166 [.vs 0 2 0 0 0, .int .i64 0, .int .i64 0, .func g []] [.vec 2 []] K E := by
  refine call_fn (n₀ := 1) tabK_ok [] Try.func166 rfl rfl rfl rfl (by decide) ?_
  intro J hJ
  have ho : J.o = stdOps := by rw [hJ]; rfl
  cbv
  repeat' (first
    | with_reducible exact id
    | exact trivial
    | exact h _
    | (intro hh; exfalso; simp only [ho, stdOps] at hh; exact absurd hh (by decide))
    | intro hh
    | with_reducible refine And.intro ?_ ?_
    | (with_reducible refine loop_once hJ tabK_ok ?_; cbv)
    | (with_reducible first | refine awp_go2 ?_ | refine aops_go2 ?_ | refine strip_go2 ?_ | refine draw_go2 ?_ | refine frames_go2 ?_); cbv)
set_option maxHeartbeats 8000000 in
set_option maxRecDepth 100000 in
theorem f162_none {g : Nat} (K E : AV → List Ent → Prop) (h : ∀ r, K r [.vec 2 []]) : CallA Try.prog 162 [.vs 0 2 0 0 0, .int .i64 0, .int .i64 0, .int .i64 0, .func g []] [.vec 2 []] K E := by
  refine call_fn (n₀ := 1) tabK_ok [] Try.func162 rfl rfl rfl rfl (by decide) ?_
  intro J hJ
  have ho : J.o = stdOps := by rw [hJ]; rfl
  cbv
  repeat' (first
    | with_reducible exact id
    | exact trivial
    | exact h _
    | (intro hh; exfalso; simp only [ho, stdOps] at hh; exact absurd hh (by decide))
    | intro hh
    | with_reducible refine And.intro ?_ ?_
    | (with_reducible refine loop_once hJ tabK_ok ?_; cbv)
    | (with_reducible first | refine awp_go2 ?_ | refine aops_go2 ?_ | refine strip_go2 ?_ | refine draw_go2 ?_ | refine frames_go2 ?_); cbv
    | (refine call_in hJ [0] (by decide) rfl rfl rfl (f166_none _ _ fun r => ?_); cbv))
set_option maxHeartbeats 8000000 in
set_option maxRecDepth 100000 in
theorem f151_none {g : Nat} (K E : AV → List Ent → Prop) (h : ∀ r, K r [.vec 2 []]) : CallA Try.prog 151 [.vs 0 2 0 0 0, .func g []] [.vec 2 []] K E := by
  refine call_fn (n₀ := 1) tabK_ok [] Try.func151 rfl rfl rfl rfl (by decide) ?_
  intro J hJ
  have ho : J.o = stdOps := by rw [hJ]; rfl
  cbv
  repeat' (first
    | with_reducible exact id
    | exact trivial
    | exact h _
    | (intro hh; exfalso; simp only [ho, stdOps] at hh; exact absurd hh (by decide))
    | intro hh
    | with_reducible refine And.intro ?_ ?_
    | (with_reducible refine loop_once hJ tabK_ok ?_; cbv)
    | (with_reducible first | refine awp_go2 ?_ | refine aops_go2 ?_ | refine strip_go2 ?_ | refine draw_go2 ?_ | refine frames_go2 ?_); cbv
    | (refine call_in hJ [] (by decide) rfl rfl rfl (f163_call _ (by simp only [ho, stdOps]; decide) _ _ ?_); cbv)
    | (refine call_in hJ [0] (by decide) rfl rfl rfl (f162_none _ _ fun r => ?_); cbv))
end Go.Proofs.Ytjdbmfipciadfaa.A
