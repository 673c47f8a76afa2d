/- Graphs as the machine has them; the functions that only compute. -/
import Derived.Test.YtilffanmaicakaaAmTab
import Derived.Test.YtilffanmaicakaaAmVecRules
import Derived.Test.YtilffanmaicakaaGrPure
namespace Go.Proofs.Ytilffanmaicakaa.A
open Go Go.Pt Go.Gr

theorem wrap64 {n : Int} (h : -9223372036854775808 ≤ n) (h' : n ≤ 9223372036854775807) : IntKind.i64.wrap n = n := by
  unfold IntKind.wrap
  simp [IntKind.bits, IntKind.signed]
  omega
theorem awp_go {J tab c Q s} (h : awp J tab c Q s) : awp J tab c Q s := h
theorem aops_go {J tab all r s K E} (h : aops J tab all r s K E) : aops J tab all r s K E := h
theorem strip_go {g l s K} (h : strip g l s K) : strip g l s K := h
theorem draw_go {J tab all n F r acc s K} (h : drawK J tab all n F r acc s K) : drawK J tab all n F r acc s K := h
theorem frames_go {acc es σ τ} (h : framesP acc es σ τ) : framesP acc es σ τ := h

def _root_.Go.Gr.Ed.av (x : Ed) : AV := .agg [.int .i64 x.f, .int .i64 x.p]
def _root_.Go.Gr.Op.av (x : Gr.Op) : AV := .agg [.int .i64 x.k, .int .i64 x.p, .int .i64 x.f, .int .i64 x.a, .sl 2 (x.i.map Ed.av) .no]

theorem op_in {J : Jd} {n₀ : Nat} (hJ : J = std Try.prog n₀) {l : List Gr.Op} {os : List AV} (hos : os = l.map Gr.Op.av) {i : Int} {K : AV → Prop} (h : ∀ k p f a es il, es = il.map Ed.av → l[i.toNat]? = some ⟨k, p, f, a, il⟩ → K (.agg [.int .i64 k, .int .i64 p, .int .i64 f, .int .i64 a, .sl 2 es .no])) : ∀ e, J.o.get os i = some e → K e := by
  subst hJ hos
  intro e he
  simp only [std, stdOps, List.getElem?_map] at he
  cases hz : l[i.toNat]? with
  | none => rw [hz] at he; simp at he
  | some z => rw [hz] at he; simp at he; subst he; exact h z.k z.p z.f z.a _ z.i rfl hz

theorem ed_in {J : Jd} {n₀ : Nat} (hJ : J = std Try.prog n₀) {l : List Ed} {es : List AV} (hes : es = l.map Ed.av) {i : Int} {K : AV → Prop} (h : ∀ f p, l[i.toNat]? = some ⟨f, p⟩ → K (.agg [.int .i64 f, .int .i64 p])) : ∀ e, J.o.get es i = some e → K e := by
  subst hJ hes
  intro e he
  simp only [std, stdOps, List.getElem?_map] at he
  cases hz : l[i.toNat]? with
  | none => rw [hz] at he; simp at he
  | some z => rw [hz] at he; simp at he; subst he; exact h z.f z.p hz

theorem op_is {J : Jd} {n₀ : Nat} (hJ : J = std Try.prog n₀) {l : List Gr.Op} {os : List AV} (hos : os = l.map Gr.Op.av) {i k p f a : Int} {es : List AV} {il : List Ed} (ho : l[i.toNat]? = some ⟨k, p, f, a, il⟩) (hes : es = il.map Ed.av) {K : AV → Prop} (h : K (.agg [.int .i64 k, .int .i64 p, .int .i64 f, .int .i64 a, .sl 2 es .no])) : ∀ e, J.o.get os i = some e → K e := by
  subst hJ hos hes
  intro e he
  simp only [std, stdOps, List.getElem?_map, ho] at he
  simp at he; subst he; exact h

theorem wkEnv_go' {e f} (h : wkEnv e f) : wkEnv e f := h

set_option maxHeartbeats 8000000 in
set_option maxRecDepth 100000 in
theorem ports_call (k p f a : Int) (es : List AV) (K E) (h : K (.int .i64 (Gr.ports k a)) []) : CallA Try.prog 28 [.agg [.int .i64 k, .int .i64 p, .int .i64 f, .int .i64 a, .sl 2 es .no]] [] K E := by
  refine call_fn (n₀ := 0) tab_ok [] Try.func28 rfl rfl rfl rfl (by decide) ?_
  intro J hJ
  cbv
  repeat' (first
    | with_reducible exact id
    | exact trivial
    | with_reducible refine fit_int h ?_
    | (with_reducible refine op_is hJ hos ho hoes ?_; cbv)
    | (with_reducible refine op_in hJ hos ?_; intro ok op of oa oes oil hoes hop; cbv)
    | (with_reducible refine ed_in hJ hes ?_; intro xf xp hed; cbv)
    | (with_reducible refine ed_in hJ hoes ?_; intro xf xp hed; cbv)
    | intro hh
    | with_reducible refine And.intro ?_ ?_
    | (with_reducible first | refine awp_go ?_ | refine aops_go ?_ | refine strip_go ?_ | refine draw_go ?_ | refine frames_go ?_); cbv)
  all_goals subst hJ
  all_goals try simp only [std, stdOps] at *
  all_goals first | grind [Gr.ports] | (simp only [Gr.ports]; grind)
theorem ports_at {J : Jd} {n₀ : Nat} (hJ : J = std Try.prog n₀) {k p f a : Int} {es : List AV} {σ K E} (h : ∀ (r' : Int), r' = Gr.ports k a → K (.int .i64 r') σ) : J.call 28 [.agg [.int .i64 k, .int .i64 p, .int .i64 f, .int .i64 a, .sl 2 es .no]] σ K E := call_pure hJ (ports_call k p f a es) (h _ rfl)
theorem ports_pure {J : Jd} {n₀ : Nat} (hJ : J = std Try.prog n₀) {k p f a : Int} {es : List AV} {K : AV → Prop} (h : ∀ (r' : Int), r' = Gr.ports k a → K (.int .i64 r')) : J.pure 28 [.agg [.int .i64 k, .int .i64 p, .int .i64 f, .int .i64 a, .sl 2 es .no]] K := pure_at hJ (ports_call k p f a es) (fun _ => rfl) (h _ rfl)

set_option maxHeartbeats 8000000 in
set_option maxRecDepth 100000 in
theorem ports'_call (k p f a : Int) (es : List AV) (K E) (h : K (.int .i64 (Gr.ports k a)) []) : CallA Try.prog 29 [.agg [.int .i64 k, .int .i64 p, .int .i64 f, .int .i64 a, .sl 2 es .no]] [] K E := by
  refine call_fn (n₀ := 0) tab_ok [] Try.func29 rfl rfl rfl rfl (by decide) ?_
  intro J hJ
  cbv
  repeat' (first
    | with_reducible exact id
    | exact trivial
    | with_reducible refine fit_int h ?_
    | (with_reducible refine op_is hJ hos ho hoes ?_; cbv)
    | (with_reducible refine op_in hJ hos ?_; intro ok op of oa oes oil hoes hop; cbv)
    | (with_reducible refine ed_in hJ hes ?_; intro xf xp hed; cbv)
    | (with_reducible refine ed_in hJ hoes ?_; intro xf xp hed; cbv)
    | intro hh
    | with_reducible refine And.intro ?_ ?_
    | (with_reducible first | refine awp_go ?_ | refine aops_go ?_ | refine strip_go ?_ | refine draw_go ?_ | refine frames_go ?_); cbv)
  all_goals subst hJ
  all_goals try simp only [std, stdOps] at *
  all_goals first | grind [Gr.ports] | (simp only [Gr.ports]; grind)
theorem ports'_at {J : Jd} {n₀ : Nat} (hJ : J = std Try.prog n₀) {k p f a : Int} {es : List AV} {σ K E} (h : ∀ (r' : Int), r' = Gr.ports k a → K (.int .i64 r') σ) : J.call 29 [.agg [.int .i64 k, .int .i64 p, .int .i64 f, .int .i64 a, .sl 2 es .no]] σ K E := call_pure hJ (ports'_call k p f a es) (h _ rfl)
theorem ports'_pure {J : Jd} {n₀ : Nat} (hJ : J = std Try.prog n₀) {k p f a : Int} {es : List AV} {K : AV → Prop} (h : ∀ (r' : Int), r' = Gr.ports k a → K (.int .i64 r')) : J.pure 29 [.agg [.int .i64 k, .int .i64 p, .int .i64 f, .int .i64 a, .sl 2 es .no]] K := pure_at hJ (ports'_call k p f a es) (fun _ => rfl) (h _ rfl)

set_option maxHeartbeats 8000000 in
set_option maxRecDepth 100000 in
theorem portsN_call (k p f a : Int) (K E) (h : K (.int .i64 (Gr.ports k a)) []) : CallA Try.prog 28 [.agg [.int .i64 k, .int .i64 p, .int .i64 f, .int .i64 a, .nils]] [] K E := by
  refine call_fn (n₀ := 0) tab_ok [] Try.func28 rfl rfl rfl rfl (by decide) ?_
  intro J hJ
  cbv
  repeat' (first
    | with_reducible exact id
    | exact trivial
    | with_reducible refine fit_int h ?_
    | (with_reducible refine op_is hJ hos ho hoes ?_; cbv)
    | (with_reducible refine op_in hJ hos ?_; intro ok op of oa oes oil hoes hop; cbv)
    | (with_reducible refine ed_in hJ hes ?_; intro xf xp hed; cbv)
    | (with_reducible refine ed_in hJ hoes ?_; intro xf xp hed; cbv)
    | intro hh
    | with_reducible refine And.intro ?_ ?_
    | (with_reducible first | refine awp_go ?_ | refine aops_go ?_ | refine strip_go ?_ | refine draw_go ?_ | refine frames_go ?_); cbv)
  all_goals subst hJ
  all_goals try simp only [std, stdOps] at *
  all_goals first | grind [Gr.ports] | (simp only [Gr.ports]; grind)
theorem portsN_at {J : Jd} {n₀ : Nat} (hJ : J = std Try.prog n₀) {k p f a : Int} {σ K E} (h : ∀ (r' : Int), r' = Gr.ports k a → K (.int .i64 r') σ) : J.call 28 [.agg [.int .i64 k, .int .i64 p, .int .i64 f, .int .i64 a, .nils]] σ K E := call_pure hJ (portsN_call k p f a) (h _ rfl)
theorem portsN_pure {J : Jd} {n₀ : Nat} (hJ : J = std Try.prog n₀) {k p f a : Int} {K : AV → Prop} (h : ∀ (r' : Int), r' = Gr.ports k a → K (.int .i64 r')) : J.pure 28 [.agg [.int .i64 k, .int .i64 p, .int .i64 f, .int .i64 a, .nils]] K := pure_at hJ (portsN_call k p f a) (fun _ => rfl) (h _ rfl)

set_option maxHeartbeats 8000000 in
set_option maxRecDepth 100000 in
theorem portsN'_call (k p f a : Int) (K E) (h : K (.int .i64 (Gr.ports k a)) []) : CallA Try.prog 29 [.agg [.int .i64 k, .int .i64 p, .int .i64 f, .int .i64 a, .nils]] [] K E := by
  refine call_fn (n₀ := 0) tab_ok [] Try.func29 rfl rfl rfl rfl (by decide) ?_
  intro J hJ
  cbv
  repeat' (first
    | with_reducible exact id
    | exact trivial
    | with_reducible refine fit_int h ?_
    | (with_reducible refine op_is hJ hos ho hoes ?_; cbv)
    | (with_reducible refine op_in hJ hos ?_; intro ok op of oa oes oil hoes hop; cbv)
    | (with_reducible refine ed_in hJ hes ?_; intro xf xp hed; cbv)
    | (with_reducible refine ed_in hJ hoes ?_; intro xf xp hed; cbv)
    | intro hh
    | with_reducible refine And.intro ?_ ?_
    | (with_reducible first | refine awp_go ?_ | refine aops_go ?_ | refine strip_go ?_ | refine draw_go ?_ | refine frames_go ?_); cbv)
  all_goals subst hJ
  all_goals try simp only [std, stdOps] at *
  all_goals first | grind [Gr.ports] | (simp only [Gr.ports]; grind)
theorem portsN'_at {J : Jd} {n₀ : Nat} (hJ : J = std Try.prog n₀) {k p f a : Int} {σ K E} (h : ∀ (r' : Int), r' = Gr.ports k a → K (.int .i64 r') σ) : J.call 29 [.agg [.int .i64 k, .int .i64 p, .int .i64 f, .int .i64 a, .nils]] σ K E := call_pure hJ (portsN'_call k p f a) (h _ rfl)
theorem portsN'_pure {J : Jd} {n₀ : Nat} (hJ : J = std Try.prog n₀) {k p f a : Int} {K : AV → Prop} (h : ∀ (r' : Int), r' = Gr.ports k a → K (.int .i64 r')) : J.pure 29 [.agg [.int .i64 k, .int .i64 p, .int .i64 f, .int .i64 a, .nils]] K := pure_at hJ (portsN'_call k p f a) (fun _ => rfl) (h _ rfl)

set_option maxHeartbeats 8000000 in
set_option maxRecDepth 100000 in
theorem fn_call (k p f a : Int) (es : List AV) (m : Int) (K E) (h : K (.bool ((decide (1 ≤ f) && decide (f ≤ m)))) []) : CallA Try.prog 120 [.agg [.int .i64 k, .int .i64 p, .int .i64 f, .int .i64 a, .sl 2 es .no], .int .i64 m] [] K E := by
  refine call_fn (n₀ := 0) tab_ok [] Try.func120 rfl rfl rfl rfl (by decide) ?_
  intro J hJ
  cbv
  repeat' (first
    | with_reducible exact id
    | exact trivial
    | with_reducible refine fit_bool h ?_
    | (with_reducible refine op_is hJ hos ho hoes ?_; cbv)
    | (with_reducible refine op_in hJ hos ?_; intro ok op of oa oes oil hoes hop; cbv)
    | (with_reducible refine ed_in hJ hes ?_; intro xf xp hed; cbv)
    | (with_reducible refine ed_in hJ hoes ?_; intro xf xp hed; cbv)
    | intro hh
    | with_reducible refine And.intro ?_ ?_
    | (with_reducible first | refine awp_go ?_ | refine aops_go ?_ | refine strip_go ?_ | refine draw_go ?_ | refine frames_go ?_); cbv)
  all_goals subst hJ
  all_goals try simp only [std, stdOps] at *
  all_goals first | grind [wrap64] | (simp only [wrap64]; grind)
theorem fn_at {J : Jd} {n₀ : Nat} (hJ : J = std Try.prog n₀) {k p f a : Int} {es : List AV} {m : Int} {σ K E} (h : ∀ (r' : Bool), r' = (decide (1 ≤ f) && decide (f ≤ m)) → K (.bool r') σ) : J.call 120 [.agg [.int .i64 k, .int .i64 p, .int .i64 f, .int .i64 a, .sl 2 es .no], .int .i64 m] σ K E := call_pure hJ (fn_call k p f a es m) (h _ rfl)
theorem fn_pure {J : Jd} {n₀ : Nat} (hJ : J = std Try.prog n₀) {k p f a : Int} {es : List AV} {m : Int} {K : AV → Prop} (h : ∀ (r' : Bool), r' = (decide (1 ≤ f) && decide (f ≤ m)) → K (.bool r')) : J.pure 120 [.agg [.int .i64 k, .int .i64 p, .int .i64 f, .int .i64 a, .sl 2 es .no], .int .i64 m] K := pure_at hJ (fn_call k p f a es m) (fun _ => rfl) (h _ rfl)

set_option maxHeartbeats 8000000 in
set_option maxRecDepth 100000 in
theorem fields_call (k p f a : Int) (es : List AV) (n : Int) (K E) (h : K (.bool (Gr.fieldsOk k p f a n)) []) : CallA Try.prog 100 [.agg [.int .i64 k, .int .i64 p, .int .i64 f, .int .i64 a, .sl 2 es .no], .int .i64 n] [] K E := by
  refine call_fn (n₀ := 0) tab_ok [] Try.func100 rfl rfl rfl rfl (by decide) ?_
  intro J hJ
  cbv
  repeat' (first
    | with_reducible exact id
    | exact trivial
    | with_reducible refine fit_bool h ?_
    | (with_reducible refine op_is hJ hos ho hoes ?_; cbv)
    | (with_reducible refine op_in hJ hos ?_; intro ok op of oa oes oil hoes hop; cbv)
    | (with_reducible refine ed_in hJ hes ?_; intro xf xp hed; cbv)
    | (with_reducible refine ed_in hJ hoes ?_; intro xf xp hed; cbv)
    | (with_reducible refine fn_at hJ ?_; intros)
    | intro hh
    | with_reducible refine And.intro ?_ ?_
    | (with_reducible first | refine awp_go ?_ | refine aops_go ?_ | refine strip_go ?_ | refine draw_go ?_ | refine frames_go ?_); cbv)
  all_goals subst hJ
  all_goals try simp only [std, stdOps] at *
  all_goals first | grind [Gr.fieldsOk] | (simp only [Gr.fieldsOk]; grind)
theorem fields_at {J : Jd} {n₀ : Nat} (hJ : J = std Try.prog n₀) {k p f a : Int} {es : List AV} {n : Int} {σ K E} (h : ∀ (r' : Bool), r' = Gr.fieldsOk k p f a n → K (.bool r') σ) : J.call 100 [.agg [.int .i64 k, .int .i64 p, .int .i64 f, .int .i64 a, .sl 2 es .no], .int .i64 n] σ K E := call_pure hJ (fields_call k p f a es n) (h _ rfl)
theorem fields_pure {J : Jd} {n₀ : Nat} (hJ : J = std Try.prog n₀) {k p f a : Int} {es : List AV} {n : Int} {K : AV → Prop} (h : ∀ (r' : Bool), r' = Gr.fieldsOk k p f a n → K (.bool r')) : J.pure 100 [.agg [.int .i64 k, .int .i64 p, .int .i64 f, .int .i64 a, .sl 2 es .no], .int .i64 n] K := pure_at hJ (fields_call k p f a es n) (fun _ => rfl) (h _ rfl)

set_option maxHeartbeats 8000000 in
set_option maxRecDepth 100000 in
theorem fields'_call (k p f a : Int) (es : List AV) (n : Int) (K E) (h : K (.bool (Gr.fieldsOk k p f a n)) []) : CallA Try.prog 68 [.agg [.int .i64 k, .int .i64 p, .int .i64 f, .int .i64 a, .sl 2 es .no], .int .i64 n] [] K E := by
  refine call_fn (n₀ := 0) tab_ok [] Try.func68 rfl rfl rfl rfl (by decide) ?_
  intro J hJ
  cbv
  repeat' (first
    | with_reducible exact id
    | exact trivial
    | with_reducible refine fit_bool h ?_
    | (with_reducible refine op_is hJ hos ho hoes ?_; cbv)
    | (with_reducible refine op_in hJ hos ?_; intro ok op of oa oes oil hoes hop; cbv)
    | (with_reducible refine ed_in hJ hes ?_; intro xf xp hed; cbv)
    | (with_reducible refine ed_in hJ hoes ?_; intro xf xp hed; cbv)
    | intro hh
    | with_reducible refine And.intro ?_ ?_
    | (with_reducible first | refine awp_go ?_ | refine aops_go ?_ | refine strip_go ?_ | refine draw_go ?_ | refine frames_go ?_); cbv)
  all_goals subst hJ
  all_goals try simp only [std, stdOps] at *
  all_goals first | grind [Gr.fieldsOk] | (simp only [Gr.fieldsOk]; grind)
theorem fields'_at {J : Jd} {n₀ : Nat} (hJ : J = std Try.prog n₀) {k p f a : Int} {es : List AV} {n : Int} {σ K E} (h : ∀ (r' : Bool), r' = Gr.fieldsOk k p f a n → K (.bool r') σ) : J.call 68 [.agg [.int .i64 k, .int .i64 p, .int .i64 f, .int .i64 a, .sl 2 es .no], .int .i64 n] σ K E := call_pure hJ (fields'_call k p f a es n) (h _ rfl)
theorem fields'_pure {J : Jd} {n₀ : Nat} (hJ : J = std Try.prog n₀) {k p f a : Int} {es : List AV} {n : Int} {K : AV → Prop} (h : ∀ (r' : Bool), r' = Gr.fieldsOk k p f a n → K (.bool r')) : J.pure 68 [.agg [.int .i64 k, .int .i64 p, .int .i64 f, .int .i64 a, .sl 2 es .no], .int .i64 n] K := pure_at hJ (fields'_call k p f a es n) (fun _ => rfl) (h _ rfl)

end Go.Proofs.Ytilffanmaicakaa.A
