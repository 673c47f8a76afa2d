/- The rules: loops, less told, calls out of bodies, calls with a part of the heap. -/
import Derived.Test.YtilffanmaicakaaAmAwp
namespace Go.Pt
open Go

section
variable {P : Program} {n₀ : Nat} {tab : Nat → Ty} {w : World} {ρ : Ro}

theorem wk_val {S : Nat → Nat → Prop} {n m : Nat} {a b : AV} {v : Value} (h : wk a b) (hv : Val w S ρ n a v) : Val w S ρ n b v := by
  unfold wk at h
  split at h
  · exact Val.junk
  · split at h
    · obtain ⟨rfl, rfl⟩ := h
      obtain ⟨ad, len, cap, rfl, h1, h2, _, h4⟩ := val_sl hv
      exact val_sl_mk h1 h2 trivial h4
    · subst h
      rw [val_nils hv]
      exact val_sl_mk rfl (Nat.le_refl _) trivial (fun h => absurd rfl h)
    · exact h.elim
  · split at h
    · obtain ⟨rfl, rfl⟩ := h; exact hv
    · subst h
      rw [val_nils hv]
      exact val_sl_mk rfl (Nat.le_refl _) rfl (fun h => absurd rfl h)
    · exact h.elim
  · subst h; exact hv

theorem okV_val {S : Nat → Nat → Prop} {n m : Nat} : ∀ (k : Nat) {d : Nat} {a : AV} {v : Value}, okV m k a = true → Cz w S ρ d n a v → Cz w S ρ d m a v
  | 0, d, a, v, h, _ => by simp [okV] at h
  | k + 1, 0, a, v, _, hv => hv.elim
  | k + 1, d + 1, a, v, h, hv => by
    have all : ∀ {cs : List AV} {vs : List Value}, cs.all (okV m k) = true → All2 (Cz w S ρ d n) cs vs → All2 (Cz w S ρ d m) cs vs := by
      intro cs vs hc hl
      exact hl.imp_mem fun x hx y hy => okV_val k (List.all_eq_true.1 hc x hx) hy
    cases a with
    | agg cs => obtain ⟨vs, e, hv⟩ := hv; exact ⟨vs, e, all h hv⟩
    | tup cs => obtain ⟨vs, e, hv⟩ := hv; exact ⟨vs, e, all h hv⟩
    | func f cs => obtain ⟨vs, e, hv⟩ := hv; exact ⟨vs, e, all h hv⟩
    | iface t x => obtain ⟨u, e, hv⟩ := hv; exact ⟨u, e, okV_val k h hv⟩
    | sl s xs t =>
      obtain ⟨ad, len, cap, e, h1, h2, h3, h4⟩ := hv
      refine ⟨ad, len, cap, e, h1, h2, ?_, h4⟩
      cases t with
      | tip i p => exact ⟨by simpa [okV, okT, Nat.blt_eq] using h, h3.2⟩
      | _ => exact h3
    | ms i o s l => exact ⟨by simpa [okV, Nat.blt_eq] using h, hv.2⟩
    | vs i s lo k N => exact ⟨by simpa [okV, Nat.blt_eq] using h, hv.2⟩
    | vp i s k o => exact ⟨by simpa [okV, Nat.blt_eq] using h, hv.2⟩
    | ptr i o => exact ⟨by simpa [okV, Nat.blt_eq] using h, hv.2⟩
    | mp i => exact ⟨by simpa [okV, Nat.blt_eq] using h, hv.2⟩
    | yld i => exact ⟨by simpa [okV, Nat.blt_eq] using h, hv.2⟩
    | cond g x => simp [okV] at h
    | _ => exact hv

theorem wkL_vals {S : Nat → Nat → Prop} {n : Nat} : ∀ {cs cs' : List AV} {vs : List Value}, wkL cs cs' → All2 (Val w S ρ n) cs vs → All2 (Val w S ρ n) cs' vs
  | [], [], _, _, h => h
  | _ :: _, _ :: _, _ :: _, h, hv => ⟨wk_val (m := 0) h.1 hv.1, wkL_vals h.2 hv.2⟩
  | _ :: _, _ :: _, [], _, hv => hv.elim
  | [], _ :: _, _, h, _ => h.elim
  | _ :: _, [], _, h, _ => h.elim

theorem wkH_get : ∀ {h k : List Ent}, wkH h k → ∀ (i : Nat) f, k[i]? = some f → ∃ e, h[i]? = some e ∧ wkE e f
  | _, [], _, i, f, hi => by simp at hi
  | e :: h, g :: k, hw, 0, f, hi => ⟨e, rfl, by simp at hi; exact hi ▸ hw.1⟩
  | e :: h, g :: k, hw, i + 1, f, hi => by simpa using wkH_get hw.2 i f (by simpa using hi)
  | [], _ :: _, hw, _, _, _ => hw.elim

theorem wkH_len : ∀ {h k : List Ent}, wkH h k → k.length ≤ h.length
  | _, [], _ => by simp
  | _ :: h, _ :: k, hw => by simp [wkH_len hw.2]
  | [], _ :: _, hw => hw.elim

theorem own_wk {σ τ : List Ent} (hw : wkH σ τ) {b o : Nat} (h : Own ρ τ b o) : Own ρ σ b o := by
  obtain ⟨i, f, hi, ho⟩ := h
  obtain ⟨e, he, hwe⟩ := wkH_get hw i f hi
  refine ⟨i, e, he, ?_⟩
  cases f <;> simp only [wkE] at hwe <;> cases e <;> first | exact ho | exact hwe.elim | exact ho.elim | cases hwe

theorem look_mem {e : List (Nat × AV)} {t : Nat} : look e t = .junk ∨ ∃ k, (k, look e t) ∈ e := by
  induction e with
  | nil => left; rfl
  | cons x e ih =>
    obtain ⟨k, v⟩ := x
    simp only [look]
    split
    · exact .inr ⟨k, by simp⟩
    · rcases ih with h | ⟨k', h⟩
      · exact .inl h
      · exact .inr ⟨k', by simp [h]⟩

theorem wkEnv_look {e : List (Nat × AV)} {t : Nat} : ∀ {f : List (Nat × AV)}, wkEnv e f → wk (look e t) (look f t)
  | [], _ => trivial
  | (k, v) :: f, h => by
    simp only [look]
    split
    · rename_i hb
      rw [← Nat.eq_of_beq_eq_true hb]; exact h.1
    · exact wkEnv_look h.2

/-- Less is told: it holds still. -/
theorem Le.rel {s t : St} {a : Act} (h : Le s t) (hs : RelS ρ s a w) : RelS ρ t a w ∧ ∀ n₀, n₀ ≤ t.hp.length → StpN n₀ ρ s.hp w ρ t.hp w := by
  obtain ⟨h1, h2, h3, h4⟩ := h
  simp only [okS, Bool.and_eq_true, List.all_eq_true, lenN_eq] at h3
  obtain ⟨h3, h3'⟩ := h3
  have hS : ∀ b o, Stay ρ s.hp b o → Stay ρ t.hp b o := fun b o hb => ⟨fun ho => hb.1 (own_wk h2 ho), hb.2⟩
  have hlen := wkH_len h2
  have kp : ∀ {n : Nat}, Keeps w w (Stay ρ s.hp) (Stay ρ t.hp) ρ ρ n n := ⟨fun b o u hb hc => ⟨hS b o hb, hc⟩, Nat.le_refl _, fun _ _ => rfl, fun _ _ => .inl rfl⟩
  have val : ∀ {a : AV} {v : Value}, okV t.hp.length 6 a = true → Val w (Stay ρ s.hp) ρ s.hp.length a v → Val w (Stay ρ t.hp) ρ t.hp.length a v := by
    rintro a v ho ⟨d, hv⟩
    exact ⟨d, okV_val 6 ho (Cz.keep d kp a v hv)⟩
  refine ⟨⟨hs.defers, hs.size.trans h4, ⟨fun i f hi => ?_, fun i j f g b o hi hj hf hg => ?_, hs.rel.xlt, fun b o ho => hs.rel.xown b o (own_wk h2 ho)⟩, fun k => ?_⟩, fun n₀ hn => ?_⟩
  · obtain ⟨e, he, hwe⟩ := wkH_get h2 i f hi
    have hok := h3' f (List.mem_of_getElem? hi)
    have hent := hs.rel.ents i e he
    cases f with
    | dead => trivial
    | var cs' =>
      cases e <;> simp only [wkE] at hwe
      obtain ⟨vs, ty, hv, hb⟩ := hent
      refine ⟨vs, ty, ?_, hb⟩
      exact (wkL_vals hwe hv).imp_mem fun x hx y hy => val (List.all_eq_true.1 hok x hx) hy
    | tip p =>
      cases e <;> simp only [wkE] at hwe
      subst hwe; exact hent
    | vec s xs =>
      cases e <;> simp only [wkE] at hwe
      obtain ⟨rfl, rfl⟩ := hwe
      obtain ⟨q1, q2, q3, q4⟩ := hent
      exact ⟨q1, q2, q3, fun k x hx => let ⟨vs, a1, a2, a3⟩ := q4 k x hx; ⟨vs, a1.imp fun _ _ h => h.keep kp, a2, a3⟩⟩
    | mp es =>
      cases e <;> simp only [wkE] at hwe
      subst hwe
      obtain ⟨ms, c, hb, hv, hr⟩ := hent
      refine ⟨ms, c, hb, hv.imp_mem fun x hx y hy => ?_, hr⟩
      have := List.all_eq_true.1 hok x hx
      simp only [Bool.and_eq_true] at this
      exact ⟨val this.1 hy.1, val this.2 hy.2⟩
    | lp ps asg body env k st pe =>
      simp only [wkE] at hwe
      subst hwe
      obtain ⟨r, g1, g2, g3, g4, g5, g6, g7, g8⟩ := hent
      refine ⟨r, g1, g2, g3, g4, g5, g6, g7, fun u => ?_⟩
      rcases look_mem (e := env) (t := u) with hj | ⟨k', hk⟩
      · rw [hj]; exact Val.junk
      · exact val (List.all_eq_true.1 hok _ hk) (g8 u)
  · obtain ⟨e, he, hwe⟩ := wkH_get h2 i f hi
    obtain ⟨e', he', hwe'⟩ := wkH_get h2 j g hj
    have conv : ∀ {i : Nat} {e f : Ent}, wkE e f → OwnE ρ i b o f → OwnE ρ i b o e := by
      intro i e f hwe ho
      cases f <;> simp only [wkE] at hwe <;> cases e <;> first | exact ho | exact hwe.elim | exact ho.elim | cases hwe
    exact hs.rel.disj i j e e' b o he he' (conv hwe hf) (conv hwe' hg)
  · have hv := wk_val (m := 0) (wkEnv_look h1) (hs.vals k)
    rcases look_mem (e := t.env) (t := k) with hj | ⟨k', hk⟩
    · rw [hj]; exact Val.junk
    · exact val (h3 _ hk) hv
  · exact ⟨rfl, rfl, rfl, Nat.le_refl _, fun b ob hb => ⟨ob, hb, okBlk.refl _ _⟩, fun b o _ ho => own_wk h2 ho, hn, fun _ _ => rfl, fun _ _ => .inl rfl, rfl, rfl⟩

theorem post_mono {σ : List Ent} {Qa Qb : Ex → St → Prop} (h : ∀ x s, Qa x s → Qb x s) {e : Exit} {a : Act} {w' : World} (hp : Post n₀ ρ σ w Qa e a w') : Post n₀ ρ σ w Qb e a w' := by
  obtain ⟨x, s', ρ', h1, h2⟩ := hp
  exact ⟨x, s', ρ', h x s' h1, h2⟩

/-- Code behind less that is told. -/
theorem code_le {c : Code} {Q : Ex → St → Prop} {s t : St} (h : Le s t) (hn : n₀ ≤ t.hp.length) (hc : CodeA P n₀ c Q t) : CodeA P n₀ c Q s := by
  intro rd ρ a w _ hrd hs
  obtain ⟨hr, hst⟩ := h.rel hs
  exact wpIn_mono (hc rd ρ a w hn hrd hr) fun e a' w' hp => seq_post (hst n₀ hn) hp

/-- A loop: T b is what holds at a round's head, for some b that may be. -/
theorem code_loop {c : Code} {Q : Ex → St → Prop} {s : St} {β : Type} (T : β → St) (inv : β → Prop) (μ : β → Nat) (b0 : β) (h0 : inv b0) (hle : Le s (T b0)) (hn : ∀ b, n₀ ≤ (T b).hp.length)
    (round : ∀ b, inv b → CodeA P n₀ c (thenQ (fun s' => ∃ b', inv b' ∧ μ b' < μ b ∧ Le s' (T b')) Q) (T b)) : CodeA P n₀ (.loop c) Q s := by
  have key : ∀ n (bb : β), μ bb = n → inv bb → ∀ rd ρ a w, IsRound rd w → RelS ρ (T bb) a w → ∀ (b : Frame) (k : List Item) (cs : List Frame), b.roundOf = rd →
      ∃ e a' w', Post n₀ ρ (T bb).hp w Q e a' w' ∧ ArrivesIn (Machine.fenced P (fen rd)) P (lone (b.atR a (.code c :: .inLoop c :: k)) cs w) b k cs e a' w' := by
    intro n
    induction n using Nat.strongRecOn with
    | _ n ih =>
      intro bb hμ hinv rd ρ a w hrd hr b k cs hro
      have room : ∀ m, (fen rd).room m := fun m d hd => by simp [Fence.wide] at hd
      obtain ⟨e, a₁, w₁, ⟨x1, s1, ρ1, hq, hx, hr1, hst⟩, harr⟩ := round bb hinv rd ρ a w (hn bb) hrd hr b (.inLoop c :: k) cs hro trivial (room _)
      cases x1 with
      | normal =>
        simp only [exOk] at hx; subst hx
        obtain ⟨b', hinv', hlt, hle'⟩ := hq
        obtain ⟨hr', hst'⟩ := hle'.rel hr1
        obtain ⟨e₂, a₂, w₂, hq₂, harr₂⟩ := ih (μ b') (hμ ▸ hlt) b' rfl hinv' rd ρ1 a₁ w₁ (hrd.step hst) hr' b k cs hro
        exact ⟨e₂, a₂, w₂, seq_post (hst.trans (hst' n₀ (hn b')) (Nat.le_refl _)) hq₂, .of_steps (StepsIn.trans harr (.one (fenced_calm (n := 0) trivial (room _) rfl) stepR_inLoop)) harr₂⟩
      | exit i => simp only [exOk] at hx; subst hx; exact ⟨_, a₁, w₁, ⟨.exit i, s1, ρ1, hq, rfl, hr1, hst⟩, .pass (x := .inLoop c) rfl (fun _ _ => .inl (by simp)) harr⟩
      | ret => simp only [exOk] at hx; subst hx; exact ⟨_, a₁, w₁, ⟨.ret, s1, ρ1, hq, rfl, hr1, hst⟩, .pass (x := .inLoop c) rfl (fun _ _ => .inl (by simp)) harr⟩
      | pan x => obtain ⟨v, rfl, hv⟩ := hx; exact ⟨_, a₁, w₁, ⟨.pan x, s1, ρ1, hq, ⟨v, rfl, hv⟩, hr1, hst⟩, .pass (x := .inLoop c) rfl (fun _ _ => .inl (by simp)) harr⟩
  refine code_le hle (hn b0) ?_
  intro rd ρ a w _ hrd hr b k cs hro hb hroom
  obtain ⟨e, a', w', hq, harr⟩ := key _ b0 rfl h0 rd ρ a w hrd hr b k cs hro
  exact ⟨e, a', w', hq, .of_steps (.one (fenced_calm (n := 0) hb hroom rfl) stepR_loop) harr⟩

theorem loop_at {J : Jd} (hJ : J = std P n₀) (ht : TabOk P tab) {c : Code} {Q : Ex → St → Prop} {s : St} {β : Type} (T : β → St) (inv : β → Prop) (μ : β → Nat) (b0 : β) (h0 : inv b0) (hle : Le s (T b0)) (hn : ∀ b, n₀ ≤ (T b).hp.length)
    (round : ∀ b, inv b → ∀ N : St → Prop, (∀ s' b', inv b' → μ b' < μ b → Le s' (T b') → N s') → awp J tab c (thenQ N Q) (T b)) : J.code (.loop c) Q s := by
  subst hJ
  exact code_loop T inv μ b0 h0 hle hn fun b hb => awp_sound ht _ _ _ (round b hb _ fun s' b' h1 h2 h3 => ⟨b', h1, h2, h3⟩)

end
end Go.Pt
