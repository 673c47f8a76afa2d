/- Each operation that the abstract machine does is one that the model does: all of them, together. -/
import Derived.Test.YtilffanmaicakaaAmOps8
namespace Go.Pt
open Go

section
variable {P : Program} {n₀ : Nat} {tab : Nat → Ty} {w : World} {ρ : Ro} {s : St} {a : Act} {o : Oper} {K E : AV → List Ent → Prop} {next : Act → World → Prop} {Q : Exit → Act → World → Prop}

theorem rowsIn_of_rows {r : Option Nat} {n : Nat} {row : String} {args : Array Value} {R : Value → World → Prop} (h : Rows P row args w R) : RowsIn (fen r) n P row args w R :=
  fun c cs _ => let ⟨v, w', hr, hs⟩ := h c cs; ⟨v, w', hr, stepsIn_wide.2 hs⟩

theorem callsIn_fen {r : Option Nat} {n : Nat} {f : FuncId} {args : Array Value} {R : Ending → World → Prop} (h : Calls P f args w R) : CallsIn (fen r) n P f args w R := (callsIn_wide (n := n)).2 h

/-- What runs everywhere runs in a round. -/
theorem wpIn_of_wp {r : Option Nat} (hd : ∀ c, o.op ≠ .defer c) (h : o.wp P a w next Q) : o.wpIn (fen r) 0 P a w next Q := by
  refine ⟨fun _ _ => trivial, ?_⟩
  rw [Oper.semAt_eq _ _ _ hd]
  unfold Oper.wp at h
  generalize (execOp a.eval o).run P w = q at h
  cases q with
  | ok x w' =>
    cases x <;> simp only [Oper.upon] at h <;> simp only [Oper.uponIn] <;> first
      | exact h
      | exact ⟨fun hn => by simp [fen, Fence.wide] at hn, callsIn_fen h⟩
      | exact ⟨fun hn => by simp [fen, Fence.wide] at hn, rowsIn_of_rows h⟩
      | exact h.elim
  | halt x w' => cases x <;> simp only [Oper.upon] at h <;> simp only [Oper.uponIn] <;> first | exact h | exact h.elim

theorem sound_call {r : Option Nat} {f : Operand} {args : Array Operand} {ts : Array TypeId} (ho : o.op = .call ⟨.value f, args, ts⟩) (hs : RelS ρ s a w) (h : aop (std P n₀) tab (.call ⟨.value f, args, ts⟩) s K E) (hg : Goes ρ s a w o.dst K next) (hd : Dies ρ s a w E Q) : o.wpIn (fen r) 0 P a w next Q := by
  have hf := ev_val hs f
  simp only [aop] at h
  split at h
  · rename_i g caps e
    refine wpIn_of_wp (fun c => by rw [ho]; simp) ?_
    rw [e] at hf
    obtain ⟨cs, hfv, hcs⟩ := val_func hf
    obtain ⟨⟨fn, c, hfn, hbody, hname⟩, hcall⟩ := h
    have hc := hcall ρ w (args.toList.map a.eval ++ cs) hs.rel ((evs_val hs args.toList).append hcs)
    have hrun : (execOp a.eval o).run P w = .ok (.enter g (args.toList.map a.eval ++ cs).toArray) w := by
      have hmap : args.map a.eval ++ cs.toArray = (args.toList.map a.eval ++ cs).toArray := by apply Array.ext'; simp
      simp only [execOp, ho, resolve, hfv, Deferred.ofValue, Sem.run_bind, Sem.run_pure, Result.andThen_ok, invoke, callFunc, run_program, hfn, hname, hbody, Option.isNone_some, Bool.false_eq_true, if_false, Array.empty_append, hmap]
    unfold Oper.wp
    rw [hrun]
    refine hc.mono ?_
    rintro en w' ⟨ρ', σ', hst, hrel, hen⟩
    cases en with
    | returned v => obtain ⟨r, hk, hv⟩ := hen; exact hg.go r v ρ' σ' w' hk hv hst hrel
    | panicked ch => obtain ⟨r, v, rfl, hk, hv⟩ := hen; exact hd.die r v ρ' σ' w' hk hv hst hrel
    | outgrown => exact hen.elim
  · rename_i i e
    rw [e] at hf
    obtain ⟨_, hfv⟩ := val_yld hf
    obtain ⟨fn, tmps, asg, body, hy, hround⟩ := h ρ w (args.toList.map a.eval) hs.rel (evs_val hs args.toList)
    have hrun : (execOp a.eval o).run P w = .ok (.round (ρ.b i) fn tmps asg body) w := by
      have hmap : args.map a.eval = (args.toList.map a.eval).toArray := by apply Array.ext'; simp
      simp only [execOp, ho, resolve, hfv, Deferred.ofValue, Sem.run_bind, Sem.run_pure, Result.andThen_ok, invoke, Array.empty_append, Array.append_empty, hmap, hy]
    refine ⟨fun _ _ => trivial, ?_⟩
    rw [Oper.semAt_eq _ _ _ (fun c => by rw [ho]; simp), hrun]
    refine ⟨fun hn => by simp [fen, Fence.wide] at hn, ?_⟩
    have hround' : RoundIn (fen r) 0 P (ρ.b i) fn tmps asg body w _ := hround
    refine hround'.mono ?_
    rintro en w' ⟨ρ', σ', hst, hrel, hen⟩
    cases en with
    | returned v => obtain ⟨r, hk, hv⟩ := hen; exact hg.go r v ρ' σ' w' hk hv hst hrel
    | panicked ch => exact hen.elim
    | outgrown => exact hen.elim
  · exact h.elim

/-- Each operation of the abstract machine is one of the model's. -/
theorem aop_sound {r : Option Nat} (ht : TabOk P tab) (hs : RelS ρ s a w) (h : aop (std P n₀) tab o.op s K E) (hg : Goes ρ s a w o.dst K next) (hd : Dies ρ s a w E Q) : o.wpIn (fen r) 0 P a w next Q := by
  by_cases hc : ∃ f args ts, o.op = .call ⟨.value f, args, ts⟩
  · obtain ⟨f, args, ts, ho⟩ := hc
    rw [ho] at h
    exact sound_call ho hs h hg hd
  refine wpIn_of_wp (fun c e => by rw [e] at h; exact h.elim) ?_
  cases ho : o.op <;> rw [ho] at h
  case move x => exact sound_move (.inl ho) hs h hg
  case assign x => exact sound_move (.inr ho) hs h hg
  case pick => exact sound_pick ho hs h hg
  case alloc => exact sound_alloc ht ho hs h hg
  case box => exact sound_box ho hs h hg
  case build => exact sound_build ht ho hs h hg
  case buildSlice => exact sound_buildSlice ht ho hs h hg
  case load => exact sound_load ht ho hs h hg
  case store => exact sound_store ht ho hs h hg
  case nilCheck => exact sound_nilCheck ho hs h hg
  case binOp => exact sound_binOp ht ho hs h hg
  case unOp => exact sound_unOp ho hs h hg
  case convert => exact sound_convert ht ho hs h hg
  case makeFunc => exact sound_makeFunc ho hs h hg
  case makeMap => exact sound_makeMap ho hs h hg
  case makeSlice => exact sound_makeSlice ht ho hs h hg
  case fieldAddr => exact sound_fieldAddr ht ho hs h hg
  case field => exact sound_field ht ho hs h hg
  case indexAddr => exact sound_indexAddr ht ho hs h hg
  case index => exact sound_index ht ho hs h hg
  case extract => exact sound_extract ho hs h hg
  case slice => exact sound_slice ht ho hs h hg
  case lookup => exact sound_lookup ht ho hs h hg
  case mapUpdate => exact sound_mapUpdate ht ho hs h hg
  case call c =>
    obtain ⟨callee, args, ts⟩ := c
    cases callee with
    | value f => exact absurd ⟨f, args, ts, ho⟩ hc
    | builtin b =>
      by_cases hd : b = .delete
      · subst hd; exact sound_delete ht ho hs h hg
      by_cases hc : b = .clear
      · subst hc; exact sound_clear ht ho hs h hg
      refine sound_bi (n₀ := n₀) ht ho hs ?_ hg
      simp only [aop] at h
      cases b <;> first | exact absurd rfl hd | exact absurd rfl hc | exact h
    | invoke _ _ => exact h.elim
  all_goals exact h.elim

end
end Go.Pt
