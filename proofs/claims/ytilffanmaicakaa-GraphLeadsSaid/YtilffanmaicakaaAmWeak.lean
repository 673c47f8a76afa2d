/- A call whose arguments are told less. -/
import Derived.Test.YtilffanmaicakaaAmVecRules
namespace Go.Pt
open Go

/-- What a says of a value, b says too. -/
def Wk (a b : AV) : Prop := ∀ (w : World) (S : Nat → Nat → Prop) (ρ : Ro) (n : Nat) (v : Value), Val w S ρ n a v → Val w S ρ n b v

def WkL : List AV → List AV → Prop
  | [], [] => True
  | a :: l, b :: m => Wk a b ∧ WkL l m
  | _, _ => False

def WkE : List AV → List AV → Prop
  | [], [] => True
  | a :: l, b :: m => WkL a.cells b.cells ∧ WkE l m
  | _, _ => False

theorem Wk.rfl' {a : AV} : Wk a a := fun _ _ _ _ _ h => h
theorem WkL.vals {w : World} {S : Nat → Nat → Prop} {ρ : Ro} {n : Nat} : ∀ {l m : List AV} {vs : List Value}, WkL l m → All2 (Val w S ρ n) l vs → All2 (Val w S ρ n) m vs
  | [], [], _, _, h => h
  | _ :: _, _ :: _, [], _, h => h.elim
  | _ :: _, _ :: _, _ :: _, ⟨h1, h2⟩, ⟨h3, h4⟩ => ⟨h1 _ _ _ _ _ h3, WkL.vals h2 h4⟩
  | [], _ :: _, _, h, _ => h.elim
  | _ :: _, [], _, h, _ => h.elim
theorem WkE.get : ∀ {l m : List AV}, WkE l m → l.length = m.length ∧ ∀ (i : Nat) y, m[i]? = some y → ∃ x, l[i]? = some x ∧ WkL x.cells y.cells
  | [], [], _ => ⟨rfl, fun i y h => by simp at h⟩
  | a :: l, b :: m, ⟨h1, h2⟩ => ⟨by simp [(WkE.get h2).1], fun i y h => by
      cases i with
      | zero => simp at h; subst h; exact ⟨a, rfl, h1⟩
      | succ i => simpa using (WkE.get h2).2 i y (by simpa using h)⟩
  | [], _ :: _, h => h.elim
  | _ :: _, [], h => h.elim

theorem Wk.bl {b : Bool} : Wk (.bl b) (.bool b) := fun _ _ _ _ _ h => by rw [val_bl h]; exact ⟨1, rfl⟩
theorem Wk.agg {l m : List AV} (h : WkL l m) : Wk (.agg l) (.agg m) := fun w S ρ n v hv => by
  obtain ⟨vs, rfl, h1⟩ := val_agg hv
  obtain ⟨d, hd⟩ := all2_depth (h.vals h1)
  exact ⟨d + 1, vs, rfl, hd⟩
theorem Wk.nils {s : Nat} : Wk .nils (.sl s [] .no) := fun w S ρ n v hv => by
  rw [val_nils hv]
  exact ⟨1, none, 0, 0, rfl, rfl, Nat.le_refl _, trivial, fun h => absurd rfl h⟩
theorem Wk.sl {s : Nat} {xs ys : List AV} {t : Tok} (h : WkE xs ys) : Wk (.sl s xs t) (.sl s ys .no) := fun w S ρ n v hv => by
  obtain ⟨ad, len, cap, rfl, hl, hc, _, hne⟩ := val_sl hv
  obtain ⟨g1, g2⟩ := h.get
  refine val_sl_mk (hl.trans g1) hc trivial fun hy => ?_
  have hx : xs ≠ [] := fun e => hy (List.eq_nil_of_length_eq_zero (by rw [← g1, e]; rfl))
  obtain ⟨b, o, e, he⟩ := hne hx
  refine ⟨b, o, e, fun i y hi => ?_⟩
  obtain ⟨x, hxi, hw⟩ := g2 i y hi
  obtain ⟨vs, k1, k2, k3⟩ := he i x hxi
  exact ⟨vs, hw.vals k1, k2, k3⟩

theorem call_weak {P : Program} {n₀ : Nat} {J : Jd} (hJ : J = std P n₀) {f : FuncId} {args args' : List AV} {σ : List Ent} {K E : AV → List Ent → Prop} (hw : WkL args args') (h : J.call f args' σ K E) : J.call f args σ K E := by
  subst hJ
  exact ⟨h.1, fun ρ w vs hrel hvs => h.2 ρ w vs hrel (hw.vals hvs)⟩

theorem rel_tip0 {ρ : Ro} {σ : List Ent} {w : World} (h : Rel ρ σ w) : Stp ρ σ w (ρ.tipAt σ.length ⟨0, 0, 0, 0⟩) (σ ++ [.tip 0]) w ∧ Rel (ρ.tipAt σ.length ⟨0, 0, 0, 0⟩) (σ ++ [.tip 0]) w := by
  have tn : (ρ.tipAt σ.length ⟨0, 0, 0, 0⟩).t σ.length = ⟨0, 0, 0, 0⟩ := by simp [Ro.tipAt]
  refine h.push (fun _ _ => rfl) (fun i hi => by simp [Ro.tipAt]; omega) rfl rfl rfl rfl rfl (fun _ _ h => h) (Nat.le_refl _) (fun b o ho => ?_) (fun hst => ?_)
  · simp only [OwnE, tn] at ho
    omega
  · simp only [EntOk, tn]
    exact ⟨trivial, Nat.le_refl _, fun h => absurd h (Nat.lt_irrefl 0)⟩

/-- A cell that is nil is read as a slice that ends at a tip of its own. -/
theorem turn_tip {n₀ : Nat} {s : St} (i j z : Nat) {cs : List AV} (hi : nth s.hp i = some (.var cs)) (hj : nth cs j = some .nils) (hn : n₀ ≤ s.hp.length) :
    Turn n₀ s ⟨s.env, setN (snoc s.hp (.tip 0)) i (.var (setN cs j (.sl z [] (.tip (lenN s.hp) 0)))), s.n⟩ := by
  intro ρ a w hs
  rw [nth_eq] at hi hj
  have h1 := rel_tip0 hs.rel
  rw [← snoc_eq] at h1
  have hlt := lt_of_get hi
  have hi2 : (snoc s.hp (.tip 0))[i]? = some (.var cs) := by rw [snoc_eq, List.getElem?_append_left hlt]; exact hi
  have h2 := rel_reread h1.2 (i := i) (cs := cs) (cs' := setN cs j (.sl z [] (.tip (lenN s.hp) 0))) hi2 (fun vs hv => by
    obtain ⟨v, hv1, hv2⟩ := hv.get hj
    have := hv.set (n := j) (a := .sl z [] (.tip (lenN s.hp) 0)) (b := v) (by
      have := val_nils hv2; subst this
      refine val_sl_mk rfl (Nat.le_refl _) ⟨by rw [snoc_eq, lenN_eq]; simp, Nat.zero_le _, fun _ => ?_⟩ (fun h => absurd rfl h)
      have tn : (ρ.tipAt s.hp.length ⟨0, 0, 0, 0⟩).t (lenN s.hp) = ⟨0, 0, 0, 0⟩ := by rw [lenN_eq]; simp [Ro.tipAt]
      rw [tn]
      exact ⟨by simp, fun h => absurd h (Nat.lt_irrefl 0)⟩)
    rwa [set_same hv1] at this)
  have hst := h1.1.trans' h2.1
  exact ⟨ρ.tipAt s.hp.length ⟨0, 0, 0, 0⟩, ⟨hs.defers, hs.size, h2.2, fun t => (hs.vals t).keep hst.keeps⟩, hst.le hn⟩

end Go.Pt
