/- What the abstract machine says of code holds of the model's runs of it: code of all kinds. -/
import Derived.Test.YtilffanmaicakaaAmDrawB
namespace Go.Pt
open Go

section
variable {P : Program} {n₀ : Nat} {tab : Nat → Ty} {w : World} {ρ : Ro} {s : St} {a : Act} {Q : Exit → Act → World → Prop}

theorem seq_post {σ : List Ent} {s' : St} {ρ' : Ro} {w' : World} {Qa : Ex → St → Prop} (hst : StpN n₀ ρ σ w ρ' s'.hp w') {e : Exit} {a' : Act} {w'' : World} (h : Post n₀ ρ' s'.hp w' Qa e a' w'') : Post n₀ ρ σ w Qa e a' w'' := by
  obtain ⟨x, s'', ρ'', h1, h2, h3, h4⟩ := h
  exact ⟨x, s'', ρ'', h1, h2, h3, hst.trans h4 (Nat.le_refl _)⟩

theorem ex_block {id i : Nat} {Qa : Ex → St → Prop} {s' : St} (h : blockQ id Qa (.exit i) s') : (i = id ∧ Qa .normal s') ∨ (i ≠ id ∧ Qa (.exit i) s') := by
  simp only [blockQ] at h
  split at h
  · rename_i e; exact .inl ⟨Nat.eq_of_beq_eq_true e, h⟩
  · rename_i e; exact .inr ⟨fun he => by rw [he] at e; simp at e, h⟩

theorem StpN.refl' {n₀ : Nat} {σ : List Ent} (h : n₀ ≤ σ.length) : StpN n₀ ρ σ w ρ σ w := (Stp.refl ρ σ w).le h

theorem stepR_scope {b : Frame} {k : List Item} {cs : List Frame} {c : Code} : step P (lone (b.atR a (.code (.scope c) :: k)) cs w) = .next (lone (b.atR a (.code c :: .inScope c :: k)) cs w) :=
  step_lone_go (by simp [stepG, stepG.exec, Frame.atR])
theorem stepR_inScope {b : Frame} {k : List Item} {cs : List Frame} {c : Code} : step P (lone (b.atR a (.inScope c :: k)) cs w) = .next (lone (b.atR a k) cs w) :=
  step_lone_go (by simp [stepG, stepG.exec, Frame.atR])

theorem wpIn_scope {F : Fence} {n : Nat} {c : Code} (h : c.wpIn F n P (fun e a w => (∀ l, e ≠ .goto l) ∧ Q e a w) a w) : (Code.scope c).wpIn F n P Q a w := by
  intro b k cs hro hb hr
  obtain ⟨e, a₁, w₁, ⟨hg, hq⟩, harr⟩ := h b (.inScope c :: k) cs hro hb hr
  have h1 : ∀ {m}, step P (lone (b.atR a (.code (.scope c) :: k)) cs w) = .next m → StepsIn (Machine.fenced P F) P (lone (b.atR a (.code (.scope c) :: k)) cs w) m := fun hs => .one (fenced_calm hb hr rfl) hs
  cases e with
  | normal => exact ⟨.normal, a₁, w₁, hq, .of_steps (h1 stepR_scope) (StepsIn.trans harr (.one (fenced_calm hb hr rfl) stepR_inScope))⟩
  | exit id =>
    refine ⟨.exit id, a₁, w₁, hq, .of_steps (h1 stepR_scope) ⟨fun k' hk => harr.1 k' (by simp [exitTo, hk]), fun hr' hk => harr.2 hr' (by simp [exitTo, hk])⟩⟩
  | goto l => exact absurd rfl (hg l)
  | ret => exact ⟨_, a₁, w₁, hq, .of_steps (h1 stepR_scope) harr⟩
  | panic ch => exact ⟨_, a₁, w₁, hq, .of_steps (h1 stepR_scope) harr⟩
  | outgrown => exact ⟨_, a₁, w₁, hq, .of_steps (h1 stepR_scope) harr⟩

theorem awp_sound (ht : TabOk P tab) : ∀ (c : Code) (Qa : Ex → St → Prop) (s : St), awp (std P n₀) tab c Qa s → CodeA P n₀ c Qa s := by
  intro c
  induction c with
  | skip => exact fun Qa s h rd ρ a w hn _ hs => wpIn_skip ⟨.normal, s, ρ, h, rfl, hs, StpN.refl' hn⟩
  | label l => exact fun Qa s h rd ρ a w hn _ hs => wpIn_label ⟨.normal, s, ρ, h, rfl, hs, StpN.refl' hn⟩
  | exit id => exact fun Qa s h rd ρ a w hn _ hs => wpIn_exit ⟨.exit id, s, ρ, h, rfl, hs, StpN.refl' hn⟩
  | ret => exact fun Qa s h rd ρ a w hn _ hs => wpIn_ret ⟨.ret, s, ρ, h, rfl, hs, StpN.refl' hn⟩
  | goto l => exact fun Qa s h => h.elim
  | refuse y => exact fun Qa s h => h.elim
  | loop c _ => exact fun Qa s h => h
  | rangeFunc f ps a c _ _ => exact fun Qa s h => h
  | region id ops draw =>
    cases draw with
    | true =>
      intro Qa s h
      simp only [awp] at h
      by_cases hF : CodeA P n₀ (.region id ops true) Qa s
      · exact hF
      · intro rd ρ a w hn hrd hs
        exact draw_sound ht hF h hs fun f ρ' a' w' hf hr hst => ⟨.normal, f, ρ', hf, rfl, hr, hst.le hn⟩
    | false =>
      intro Qa s h rd ρ a w hn hrd hs
      refine wpIn_region ?_
      have := aops_sound (rd := rd) (Q := Post n₀ ρ s.hp w Qa) ht (ops := ops) ops.toList 0 (by simp) h hs ⟨fun s' ρ' a' w' hk _ hr hst => ⟨.normal, s', ρ', hk, rfl, hr, hst.le hn⟩,
        fun x v ρ' σ' w' a' hx hv hst hr hsz hdf => ⟨.pan x, ⟨[], σ', s.n⟩, ρ', hx, ⟨v, rfl, hv⟩, ⟨hdf, hsz, hr, fun t => Val.junk⟩, hst.le hn⟩⟩
      rw [List.range_eq_range']
      simpa using this
  | seq x y ihx ihy =>
    intro Qa s h rd ρ a w hn hrd hs
    refine wpIn_seq (wpIn_mono (ihx _ s h rd ρ a w hn hrd hs) ?_)
    rintro e a1 w1 ⟨x1, s1, ρ1, hq, hx, hr, hst⟩
    cases x1 with
    | normal =>
      simp only [exOk] at hx; subst hx
      exact wpIn_mono (ihy _ s1 hq rd ρ1 a1 w1 hst.len (hrd.step hst) hr) (fun e a' w' h => seq_post hst h)
    | exit i => simp only [exOk] at hx; subst hx; exact ⟨.exit i, s1, ρ1, hq, rfl, hr, hst⟩
    | ret => simp only [exOk] at hx; subst hx; exact ⟨.ret, s1, ρ1, hq, rfl, hr, hst⟩
    | pan x => obtain ⟨v, rfl, hv⟩ := hx; exact ⟨.pan x, s1, ρ1, hq, ⟨v, rfl, hv⟩, hr, hst⟩
  | cond c x y ihx ihy =>
    intro Qa s h rd ρ a w hn hrd hs
    have hc := ev_val hs c
    simp only [awp] at h
    split at h
    · rename_i e; rw [e] at hc
      exact wpIn_cond (t := true) (val_bl hc) (ihx _ s h rd ρ a w hn hrd hs)
    · rename_i e; rw [e] at hc
      exact wpIn_cond (t := false) (val_bl hc) (ihy _ s h rd ρ a w hn hrd hs)
    · rename_i t e; rw [e] at hc
      cases t with
      | true => exact wpIn_cond (t := true) (val_bool hc) (ihx _ s (h.1 rfl) rd ρ a w hn hrd hs)
      | false => exact wpIn_cond (t := false) (val_bool hc) (ihy _ s (h.2 rfl) rd ρ a w hn hrd hs)
    · exact h.elim
  | block id c ih =>
    intro Qa s h rd ρ a w hn hrd hs
    refine wpIn_block (wpIn_mono (ih _ s h rd ρ a w hn hrd hs) ?_)
    rintro e a1 w1 ⟨x1, s1, ρ1, hq, hx, hr, hst⟩
    cases x1 with
    | normal => simp only [exOk] at hx; subst hx; exact ⟨.normal, s1, ρ1, hq, rfl, hr, hst⟩
    | exit i =>
      simp only [exOk] at hx; subst hx
      simp only [Exit.inBlock]
      rcases ex_block hq with ⟨he, hq'⟩ | ⟨hne, hq'⟩
      · rw [if_pos he]; exact ⟨.normal, s1, ρ1, hq', rfl, hr, hst⟩
      · rw [if_neg hne]; exact ⟨.exit i, s1, ρ1, hq', rfl, hr, hst⟩
    | ret => simp only [exOk] at hx; subst hx; exact ⟨.ret, s1, ρ1, hq, rfl, hr, hst⟩
    | pan x => obtain ⟨v, rfl, hv⟩ := hx; exact ⟨.pan x, s1, ρ1, hq, ⟨v, rfl, hv⟩, hr, hst⟩
  | scope c ih =>
    intro Qa s h rd ρ a w hn hrd hs
    refine wpIn_scope (wpIn_mono (ih Qa s h rd ρ a w hn hrd hs) ?_)
    rintro e a1 w1 ⟨x1, s1, ρ1, hq, hx, hr, hst⟩
    refine ⟨fun l hc => ?_, x1, s1, ρ1, hq, hx, hr, hst⟩
    subst hc
    cases x1 with
    | normal => simp [exOk] at hx
    | exit i => simp [exOk] at hx
    | ret => simp [exOk] at hx
    | pan v => obtain ⟨_, h, _⟩ := hx; simp at h

end
end Go.Pt
