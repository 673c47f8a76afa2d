/- A region whose order is drawn, and in which two operations that make something may change places: both orders are walked. -/import Derived.Test.YtjdbmfipciadfaaMa3
import Derived.RangeFuncNested
import Derived.Maps.RangeRun
import Derived.Laws.IdiomRangeMap
namespace Go.Pt
open Go
def addA (i : Nat) (q : Oper) : Oper := { q with after := q.after.push ⟨i, .data⟩ }
def addL (i : Nat) : Nat → List Oper → List Oper
  | _, [] => []
  | 0, q :: r => { q with after := ⟨snoc q.after.toList ⟨i, .data⟩⟩ } :: r
  | j + 1, q :: r => q :: addL i j r
def calmOp : Op → Bool
  | .move _ | .assign _ | .pick .. | .alloc .. | .box .. | .build .. | .buildSlice .. | .load .. | .store .. | .binOp .. | .unOp .. | .convert .. | .fieldAddr .. | .field .. | .indexAddr .. | .index .. | .extract .. | .slice .. => true
  | _ => false
def calmAll : List Oper → Bool
  | [] => true
  | q :: r => match calmOp q.op with | true => calmAll r | false => false
def calmR : Result Next → Prop
  | .ok (.value _) _ => True
  | .ok .skip _ => True
  | .ok _ _ => False
  | .halt _ _ => True
section
variable {P : Program} {n₀ : Nat} {tab : Nat → Ty}
theorem calm_v {s : Sem Value} {w : World} : calmR ((do pure (.value (← s)) : Sem Next).run P w) := by
  simp only [Sem.run_bind, Sem.run_pure]
  cases s.run P w <;> simp [Result.andThen, calmR]
theorem calm_u {s : Sem Unit} {w : World} : calmR ((do s; pure .skip : Sem Next).run P w) := by
  simp only [Sem.run_bind, Sem.run_pure]
  cases s.run P w <;> simp [Result.andThen, calmR]
theorem calm_run {o : Oper} (h : calmOp o.op = true) {ro : Option Nat} {f : Operand → Value} {w : World} : calmR ((o.semAt ro f).run P w) := by
  rw [Oper.semAt_eq _ _ _ (by intro c e; rw [e] at h; simp [calmOp] at h)]
  cases e : o.op <;> rw [e] at h <;> simp only [calmOp, Bool.false_eq_true] at h
  all_goals simp only [execOp, e]
  all_goals first
    | exact calm_v
    | exact calm_u
    | (simp only [Sem.run_bind, Sem.run_pure, Result.andThen, calmR]; done)
    | (simp only [Sem.run_bind, Sem.run_pure]; split <;> simp [Result.andThen, calmR])
    | (simp only [Sem.run_bind, Sem.run_pure]; generalize (asBool _).run P w = r; cases r <;> simp [Result.andThen, calmR])
theorem upon_and {F : Fence} {n : Nat} {o : Oper} {a : Act} {K K' : Act → World → Prop} {Q : Exit → Act → World → Prop} {r : Result Next} (hc : calmR r) (h : o.uponIn F n P a K Q r) (h' : o.uponIn F n P a K' Q r) : o.uponIn F n P a (fun a w => K a w ∧ K' a w) Q r := by
  cases r with
  | halt x w =>
    cases x <;> simp only [Oper.uponIn] at h h' ⊢ <;> exact h
  | ok x w =>
    cases x <;> simp only [calmR] at hc <;> simp only [Oper.uponIn] at h h' ⊢ <;> exact ⟨h, h'⟩
theorem op_and {F : Fence} {n : Nat} {ops : Array Oper} {k : Nat} {a : Act} {w : World} {K K' : Act → World → Prop} {Q : Exit → Act → World → Prop} (hc : ∀ q, ops[k]? = some q → calmOp q.op = true)
    (h : wpOpIn F n P ops Q k K a w) (h' : wpOpIn F n P ops Q k K' a w) : wpOpIn F n P ops Q k (fun a w => K a w ∧ K' a w) a w := by
  unfold wpOpIn at *
  cases e : ops[k]? with
  | none => simp only [e] at h h' ⊢; exact ⟨h, h'⟩
  | some q =>
    simp only [e] at h h' ⊢
    split
    · rename_i hw
      simp only [hw, if_true] at h h'
      exact ⟨h.1, upon_and (calm_run (hc q e)) h.2 h'.2⟩
    · rename_i hw
      simp only [hw] at h h'
      exact ⟨h.1, h.2, h'.2⟩
structure Adds (ops ops1 : Array Oper) (i j : Nat) : Prop where
  get : ∀ k, ops1[k]? = if k = j then (ops[k]?).map (addA i) else ops[k]?
theorem addA_wp {F : Fence} {n i : Nat} {q : Oper} {a : Act} {w : World} {K : Act → World → Prop} {Q : Exit → Act → World → Prop} : (addA i q).wpIn F n P a w K Q = q.wpIn F n P a w K Q := rfl
theorem Adds.yld {ops ops1 : Array Oper} {i j : Nat} (h : Adds ops ops1 i j) (t : Array Value) : yielded ops1 t = yielded ops t := by
  funext k
  unfold yielded
  rw [h.get k]
  by_cases hk : k = j
  · rw [if_pos hk]
    cases ops[k]? <;> rfl
  · rw [if_neg hk]
theorem Adds.op {ops ops1 : Array Oper} {i j : Nat} (h : Adds ops ops1 i j) {F : Fence} {n k : Nat} {a : Act} {w : World} {K : Act → World → Prop} {Q : Exit → Act → World → Prop} (hw : wpOpIn F n P ops1 Q k K a w) : wpOpIn F n P ops Q k K a w := by
  unfold wpOpIn at *
  rw [h.get k, h.yld] at hw
  by_cases hk : k = j
  · rw [if_pos hk] at hw
    cases e : ops[k]? with
    | none => rw [e] at hw; exact hw
    | some q => rw [e] at hw; exact hw
  · rw [if_neg hk] at hw; exact hw
theorem Adds.ready {ops ops1 : Array Oper} {i j : Nat} (h : Adds ops ops1 i j) {listed : Array Bool} {k : Nat} : k ∈ Region.ready .any ops1 listed ↔ k ∈ Region.ready .any ops listed ∧ (k = j → listed.getD i false = true) := by
  rw [mem_ready, mem_ready, h.get k]
  by_cases hk : k = j
  · rw [if_pos hk]
    constructor
    · rintro ⟨h1, q, hq, h2⟩
      obtain ⟨q', hq', rfl⟩ := Option.map_eq_some_iff.1 hq
      refine ⟨⟨h1, q', hq', fun e he hb => h2 e (by simp [addA, he]) hb⟩, fun _ => h2 ⟨i, .data⟩ (by simp [addA]) rfl⟩
    · rintro ⟨⟨h1, q, hq, h2⟩, h3⟩
      refine ⟨h1, addA i q, by rw [hq]; rfl, fun e he hb => ?_⟩
      simp only [addA, Array.mem_push] at he
      rcases he with he | rfl
      · exact h2 e he hb
      · exact h3 hk
  · rw [if_neg hk]
    exact ⟨fun h => ⟨h, fun e => absurd e hk⟩, fun h => h.1⟩
theorem getD_keep {listed : Array Bool} {i k : Nat} (h : listed.getD i false = true) : (listed.setIfInBounds k true).getD i false = true := by
  simp only [Array.getD_eq_getD_getElem?, Array.getElem?_setIfInBounds] at h ⊢
  split
  · rename_i e
    split <;> simp_all
  · exact h
theorem getD_set {listed : Array Bool} {k : Nat} (h : listed.getD k true = false) : (listed.setIfInBounds k true).getD k false = true := by
  simp only [Array.getD_eq_getD_getElem?, Array.getElem?_setIfInBounds] at h ⊢
  by_cases hk : k < listed.size
  · simp [hk]
  · rw [Array.getElem?_eq_none (by omega)] at h; simp at h
theorem one_any {F : Fence} {n : Nat} {ops ops1 : Array Oper} {i j : Nat} {Q : Exit → Act → World → Prop} (h : Adds ops ops1 i j) : ∀ (fuel : Nat) (listed : Array Bool) (a : Act) (w : World), listed.getD i false = true →
    wpAnyIn F n P .any ops1 Q fuel listed a w → wpAnyIn F n P .any ops Q fuel listed a w
  | 0, listed, a, w, hi, hw => by
    refine ⟨?_, hw.2⟩
    rw [List.eq_nil_iff_forall_not_mem]
    intro k hk
    have : k ∈ Region.ready .any ops1 listed := h.ready.2 ⟨hk, fun _ => hi⟩
    rw [hw.1] at this; simp at this
  | fuel + 1, listed, a, w, hi, hw => by
    refine ⟨fun hr => hw.1 ?_, fun k hk => ?_⟩
    · rw [List.eq_nil_iff_forall_not_mem]
      intro k hk
      have := (h.ready.1 hk).1
      rw [hr] at this; simp at this
    · exact wpOpIn_mono (fun a w hh => one_any h fuel _ a w (getD_keep hi) hh) (h.op (hw.2 k (h.ready.2 ⟨hk, fun _ => hi⟩)))
theorem two_any {F : Fence} {n : Nat} {ops ops1 ops2 : Array Oper} {i j : Nat} {Q : Exit → Act → World → Prop} (hij : i ≠ j) (h1 : Adds ops ops1 i j) (h2 : Adds ops ops2 j i) (hc : ∀ (k : Nat) (q : Oper), ops[k]? = some q → calmOp q.op = true) : ∀ (fuel : Nat) (listed : Array Bool) (a : Act) (w : World),
    wpAnyIn F n P .any ops1 Q fuel listed a w → wpAnyIn F n P .any ops2 Q fuel listed a w → wpAnyIn F n P .any ops Q fuel listed a w
  | 0, listed, a, w, hw1, hw2 => by
    refine ⟨?_, hw1.2⟩
    rw [List.eq_nil_iff_forall_not_mem]
    intro k hk
    by_cases hkj : k = j
    · have : k ∈ Region.ready .any ops2 listed := h2.ready.2 ⟨hk, fun e => absurd (e.symm.trans hkj) hij⟩
      rw [hw2.1] at this; simp at this
    · have : k ∈ Region.ready .any ops1 listed := h1.ready.2 ⟨hk, fun e => absurd e hkj⟩
      rw [hw1.1] at this; simp at this
  | fuel + 1, listed, a, w, hw1, hw2 => by
    refine ⟨fun hr => hw1.1 ?_, fun k hk => ?_⟩
    · rw [List.eq_nil_iff_forall_not_mem]
      intro k hk
      have := (h1.ready.1 hk).1
      rw [hr] at this; simp at this
    · have hk0 : listed.getD k true = false := (mem_ready.1 hk).1
      by_cases hkj : k = j
      · subst hkj
        have hm := hw2.2 k (h2.ready.2 ⟨hk, fun e => absurd e.symm hij⟩)
        exact wpOpIn_mono (fun a w hh => one_any h2 fuel _ a w (getD_set hk0) hh) (h2.op hm)
      · by_cases hki : k = i
        · subst hki
          have hm := hw1.2 k (h1.ready.2 ⟨hk, fun e => absurd e hkj⟩)
          exact wpOpIn_mono (fun a w hh => one_any h1 fuel _ a w (getD_set hk0) hh) (h1.op hm)
        · have m1 := h1.op (hw1.2 k (h1.ready.2 ⟨hk, fun e => absurd e hkj⟩))
          have m2 := h2.op (hw2.2 k (h2.ready.2 ⟨hk, fun e => absurd e hki⟩))
          exact wpOpIn_mono (fun a w hh => two_any hij h1 h2 hc fuel _ a w hh.1 hh.2) (op_and (hc k) m1 m2)
theorem addL_get {i : Nat} : ∀ (j : Nat) (l : List Oper) (k : Nat), (addL i j l)[k]? = if k = j then (l[k]?).map (addA i) else l[k]?
  | _, [], k => by simp [addL]
  | 0, q :: r, 0 => by
    simp only [addL, List.getElem?_cons_zero, if_true, Option.map_some, Option.some.injEq, addA, snoc_eq]
    congr 1
    rw [← Array.toList_push]
  | 0, q :: r, k + 1 => by simp [addL]
  | j + 1, q :: r, 0 => by simp [addL]
  | j + 1, q :: r, k + 1 => by
    simp only [addL, List.getElem?_cons_succ]
    rw [addL_get j r k]
    simp only [Nat.add_right_cancel_iff]
theorem adds_of {i j : Nat} {ops : Array Oper} : Adds ops (addL i j ops.toList).toArray i j := ⟨fun k => by
  have := addL_get (i := i) j ops.toList k
  simpa using this⟩
theorem addL_len {i : Nat} : ∀ (j : Nat) (l : List Oper), (addL i j l).length = l.length
  | _, [] => by simp [addL]
  | 0, _ :: _ => by simp [addL]
  | j + 1, _ :: r => by simp [addL, addL_len j r]
theorem calm_all : ∀ {l : List Oper}, calmAll l = true → ∀ (k : Nat) q, l[k]? = some q → calmOp q.op = true
  | [], _, k, q, h => by simp at h
  | x :: r, hc, 0, q, h => by
    simp only [List.getElem?_cons_zero, Option.some.injEq] at h
    subst h
    simp only [calmAll] at hc
    split at hc
    · assumption
    · simp at hc
  | x :: r, hc, k + 1, q, h => by
    simp only [calmAll] at hc
    split at hc
    · exact calm_all hc k q (by simpa using h)
    · simp at hc
theorem region_two {J : Jd} (hJ : J = std P n₀) (ht : TabOk P tab) {id : Nat} {ops : Array Oper} {Q : Ex → St → Prop} {s : St} (i j : Nat) (hij : beN i j = false) (hn : n₀ ≤ s.hp.length) (hc : calmAll ops.toList = true)
    (h1 : drawR J tab (addL i j ops.toList) False s fun s' => Q .normal s')
    {K2 : St → Prop} (hK : ∀ s', K2 s' → ∃ s1, Turn n₀ s' s1 ∧ Q .normal s1) (h2 : drawR J tab (addL j i ops.toList) False s K2) : J.code (.region id ops true) Q s := by
  subst hJ
  intro rd ρ a w _ hrd hs
  have hne : i ≠ j := fun e => by subst e; simp at hij
  refine wpIn_region_any ht.mixed ?_
  have g1 := draw_any (rd := rd) (Q := Post n₀ ρ s.hp w Q) ht (ops := (addL i j ops.toList).toArray) (F := False) (fun h => h) (by simpa using h1) hs fun f ρ' a' w' hf hr hst => ⟨.normal, f, ρ', hf, rfl, hr, hst.le hn⟩
  have g2 := draw_any (rd := rd) (Q := Post n₀ ρ s.hp w Q) ht (ops := (addL j i ops.toList).toArray) (F := False) (fun h => h) (by simpa using h2) hs fun f ρ' a' w' hf hr hst => by
    obtain ⟨s1, ht1, hq⟩ := hK _ hf
    obtain ⟨ρ2, hr2, hst2⟩ := ht1 ρ' a' w' hr
    exact ⟨.normal, s1, ρ2, hq, rfl, hr2, (hst.le hn).trans hst2 (Nat.le_refl _)⟩
  simp only [List.size_toArray, addL_len, Array.length_toList] at g1 g2
  exact two_any hne adds_of adds_of (fun k q hq => calm_all hc k q (by simpa using hq)) _ _ _ _ g1 g2
theorem region_pack {J : Jd} (hJ : J = std P n₀) (ht : TabOk P tab) {id : Nat} {ops : Array Oper} {Q : Ex → St → Prop} {s : St} (i j : Nat) (l : List Nat) (hij : beN i j = false) (hn : n₀ ≤ s.hp.length) (hc : calmAll ops.toList = true) (hl : (rangeN n₀ ++ l).Nodup)
    (h1 : ∀ KK : St → Prop, (∀ s', Q .normal s' → KK s') → drawR J tab (addL i j ops.toList) False s KK)
    (h2 : ∀ KK : St → Prop, (∀ s', (leN n₀ (lenN s'.hp) = true ∧ Q .normal (s'.packed (rangeN n₀ ++ l))) → KK s') → drawR J tab (addL j i ops.toList) False s KK) : J.code (.region id ops true) Q s := by
  subst hJ
  refine region_two rfl ht i j hij hn hc (h1 _ fun _ h => h) (fun s' hs' => ?_) (h2 (fun s' => leN n₀ (lenN s'.hp) = true ∧ Q .normal (s'.packed (rangeN n₀ ++ l))) fun _ h => h)
  exact ⟨_, Turn.pack l hl (by have := leN_t hs'.1; rwa [lenN_eq] at this), hs'.2⟩
end
end Go.Pt
namespace Go.Pt
open Go
def ifB {α : Type} (b : Bool) (x y : Option α) : Option α := match b with | true => x | false => y
noncomputable def req {α : Type} (p : Prop) (x : Option α) : Option α := @ite _ p (Classical.propDecidable p) x none
def getA {α β : Type} (x : Option β) (k : β → Option α) : Option α := match x with | some v => k v | none => none
def bindR {α β : Type} (x : Option β) (k : β → Option α) : Option α := match x with | some v => k v | none => none
def findA {α : Type} (x : Option AV) (k : AV → Option α) (z : Option α) : Option α := match x with | some v => k v | none => z
theorem ifB_go {α : Type} {b : Bool} {x y : Option α} {r : α} {G1 G2 : Prop} (H : ifB b x y = some r) (h1 : b = true → x = some r → G1) (h2 : b = false → y = some r → G2) : (b = true → G1) ∧ (b = false → G2) :=
  ⟨fun e => h1 e (by subst e; exact H), fun e => h2 e (by subst e; exact H)⟩
theorem ifB_og {α : Type} {b : Bool} {x y : Option α} {r : α} {G1 G2 : Prop} (H : ifB b x y = some r) (h1 : b = true → x = some r → G1) (h2 : b = false → y = some r → G2) : (b = false → G2) ∧ (b = true → G1) :=
  (ifB_go H h1 h2).symm
theorem req_go {α : Type} {p : Prop} {x : Option α} {r : α} {G : Prop} (H : req p x = some r) (h : p → x = some r → G) : p ∧ G := by
  unfold req at H
  by_cases hp : p
  · rw [if_pos hp] at H; exact ⟨hp, h hp H⟩
  · rw [if_neg hp] at H; exact nomatch H
theorem req_eq {α : Type} {p : Prop} (x : Option α) (h : p) : req p x = x := by unfold req; rw [if_pos h]
theorem getA_go {α β : Type} {x : Option β} {k : β → Option α} {r : α} {G : β → Prop} (H : getA x k = some r) (h : ∀ e, k e = some r → G e) : ∀ e, x = some e → G e := fun e he => h e (by subst he; exact H)
theorem findA_go {α : Type} {x : Option AV} {k : AV → Option α} {z : Option α} {r : α} {G1 : AV → Prop} {G2 : Prop} (H : findA x k z = some r) (h1 : ∀ e, k e = some r → G1 e) (h2 : z = some r → G2) : (∀ e, x = some e → G1 e) ∧ (x = none → G2) :=
  ⟨fun e he => h1 e (by subst he; exact H), fun he => h2 (by subst he; exact H)⟩
theorem bindR_go {α β : Type} {x : Option β} {k : β → Option α} {r : α} (H : bindR x k = some r) : ∃ R, x = some R ∧ k R = some r := by
  cases x with
  | none => exact nomatch H
  | some v => exact ⟨v, rfl, H⟩
theorem none_go {α : Type} {r : α} {C : Prop} (H : (none : Option α) = some r) : C := nomatch H
theorem wkEnv_go2 {e f} (h : wkEnv e f) : wkEnv e f := h
theorem awp_go2 {J tab c Q s} (h : awp J tab c Q s) : awp J tab c Q s := h
theorem aops_go2 {J tab all r s K E} (h : aops J tab all r s K E) : aops J tab all r s K E := h
theorem strip_go2 {g l s K} (h : strip g l s K) : strip g l s K := h
theorem draw_go2 {J tab all n F r acc s K} (h : drawK J tab all n F r acc s K) : drawK J tab all n F r acc s K := h
theorem frames_go2 {acc es σ τ} (h : framesP acc es σ τ) : framesP acc es σ τ := h
theorem wkE_rfl : ∀ (l : List AV), WkE l l
  | [] => trivial
  | x :: l => by
    refine ⟨?_, wkE_rfl l⟩
    have : ∀ m : List AV, WkL m m := fun m => by
      induction m with
      | nil => exact trivial
      | cons y m ih => exact ⟨Wk.rfl', ih⟩
    exact this _
theorem Wk.no {s : Nat} {xs : List AV} {t : Tok} : Wk (.sl s xs t) (.sl s xs .no) := Wk.sl (wkE_rfl xs)
theorem gg_t {α : Type} {o : Ops} {g t : Bool} {x y : Option α} {r : α} {G1 G2 : Prop} (ho : o = stdOps) (H : ifB (o.band g t) x y = some r) (h1 : o.band g t = true → x = some r → G1) (h2 : o.band g t = false → y = some r → G2) :
    (g = true → t = true → G1) ∧ ((g = true → t = false) → G2) := by
  subst ho
  exact ⟨fun e1 e2 => (ifB_go H h1 h2).1 (by subst e1 e2; rfl), fun e => (ifB_go H h1 h2).2 (by cases g <;> simp_all [stdOps])⟩
theorem gg_f {α : Type} {o : Ops} {g t : Bool} {x y : Option α} {r : α} {G1 G2 : Prop} (ho : o = stdOps) (H : ifB (o.band g (o.bnot t)) x y = some r) (h1 : o.band g (o.bnot t) = true → x = some r → G1) (h2 : o.band g (o.bnot t) = false → y = some r → G2) :
    (g = true → t = false → G1) ∧ ((g = true → t = true) → G2) := by
  subst ho
  exact ⟨fun e1 e2 => (ifB_go H h1 h2).1 (by subst e1 e2; rfl), fun e => (ifB_go H h1 h2).2 (by cases g <;> simp_all [stdOps])⟩
noncomputable def bit2 {α : Type} (v : Int) (x y : Option α) : Option α := if v = 0 then x else if v = 1 then y else none
theorem bit_go {α : Type} {o : Ops} {v : Int} {x y : Option α} {r : α} {G0 G1 : Prop} (ho : o = stdOps) (H : bit2 v x y = some r) (h0 : v = 0 → x = some r → G0) (h1 : v = 1 → y = some r → G1) :
    (o.is v 0 ∨ o.is v 1) ∧ (o.is v 0 → G0) ∧ (o.is v 1 → G1) := by
  subst ho
  unfold bit2 at H
  by_cases e0 : v = 0
  · rw [if_pos e0] at H
    exact ⟨.inl e0, fun _ => h0 e0 H, fun e1 => absurd (e0.symm.trans e1) (by decide)⟩
  · rw [if_neg e0] at H
    by_cases e1 : v = 1
    · rw [if_pos e1] at H
      exact ⟨.inr e1, fun e => absurd e e0, fun _ => h1 e1 H⟩
    · rw [if_neg e1] at H; exact nomatch H
theorem tok_go {G : Tok → Prop} {a : Int} (h : G .full) : ∀ t : Tok, (a = a → t = .full) → G t := fun t ht => by rw [ht rfl]; exact h
theorem full_val {z : Nat} {xs : List AV} {σ : List Ent} {w : World} {ρ : Ro} {v : Value} (hv : Val w (Stay (ρ.tipAt σ.length ⟨0, 0, 0, 0⟩) (snoc σ (.tip 0))) (ρ.tipAt σ.length ⟨0, 0, 0, 0⟩) (snoc σ (.tip 0)).length (.sl z xs .full) v) :
    Val w (Stay (ρ.tipAt σ.length ⟨0, 0, 0, 0⟩) (snoc σ (.tip 0))) (ρ.tipAt σ.length ⟨0, 0, 0, 0⟩) (snoc σ (.tip 0)).length (.sl z xs (.tip (lenN σ) 0)) v := by
  obtain ⟨ad, len, cap, rfl, h1, h2, h3, h4⟩ := val_sl hv
  have h3 : cap = len := h3
  have tn : (ρ.tipAt σ.length ⟨0, 0, 0, 0⟩).t (lenN σ) = ⟨0, 0, 0, 0⟩ := by rw [lenN_eq]; simp [Ro.tipAt]
  refine val_sl_mk h1 h2 ⟨by rw [snoc_eq, lenN_eq]; simp, Nat.zero_le _, fun _ => ?_⟩ h4
  rw [tn]
  exact ⟨by subst h3; simp, fun h => absurd h (by omega)⟩
theorem turn_tipc {n₀ : Nat} {s : St} (i j z : Nat) (xs : List AV) {cs : List AV} (hi : nth s.hp i = some (.var cs)) (hj : nth cs j = some (.sl z xs .full)) (hn : n₀ ≤ s.hp.length) :
    Turn n₀ s ⟨s.env, setN (snoc s.hp (.tip 0)) i (.var (setN cs j (.sl z xs (.tip (lenN s.hp) 0)))), s.n⟩ := by
  intro ρ a w hs
  rw [nth_eq] at hi hj
  have h1 := rel_tip0 hs.rel
  rw [← snoc_eq] at h1
  have hlt := lt_of_get hi
  have hi2 : (snoc s.hp (.tip 0))[i]? = some (.var cs) := by rw [snoc_eq, List.getElem?_append_left hlt]; exact hi
  have h2 := rel_reread h1.2 (i := i) (cs := cs) (cs' := setN cs j (.sl z xs (.tip (lenN s.hp) 0))) hi2 (fun vs hv => by
    obtain ⟨v, hv1, hv2⟩ := hv.get hj
    have := hv.set (n := j) (a := .sl z xs (.tip (lenN s.hp) 0)) (b := v) (full_val hv2)
    rwa [set_same hv1] at this)
  have hst := h1.1.trans' h2.1
  exact ⟨ρ.tipAt s.hp.length ⟨0, 0, 0, 0⟩, ⟨hs.defers, hs.size, h2.2, fun t => (hs.vals t).keep hst.keeps⟩, hst.le hn⟩
theorem turn_tipe {n₀ : Nat} {s : St} (t z : Nat) (xs : List AV) (hj : look s.env t = .sl z xs .full) (hn : n₀ ≤ s.hp.length) :
    Turn n₀ s ⟨(t, .sl z xs (.tip (lenN s.hp) 0)) :: s.env, snoc s.hp (.tip 0), s.n⟩ := by
  intro ρ a w hs
  have h1 := rel_tip0 hs.rel
  rw [← snoc_eq] at h1
  refine ⟨ρ.tipAt s.hp.length ⟨0, 0, 0, 0⟩, ⟨hs.defers, hs.size, h1.2, fun t' => ?_⟩, h1.1.le hn⟩
  have hk := (hs.vals t').keep h1.1.keeps
  simp only [look]
  cases hb : beN t t' with
  | false => exact hk
  | true =>
    have e : t = t' := beN_t hb
    subst e
    rw [hj] at hk
    exact full_val hk
theorem turn_nile {n₀ : Nat} {s : St} (t z : Nat) (hj : look s.env t = .nils) (hn : n₀ ≤ s.hp.length) :
    Turn n₀ s ⟨(t, .sl z [] (.tip (lenN s.hp) 0)) :: s.env, snoc s.hp (.tip 0), s.n⟩ := by
  intro ρ a w hs
  have h1 := rel_tip0 hs.rel
  rw [← snoc_eq] at h1
  refine ⟨ρ.tipAt s.hp.length ⟨0, 0, 0, 0⟩, ⟨hs.defers, hs.size, h1.2, fun t' => ?_⟩, h1.1.le hn⟩
  have hk := (hs.vals t').keep h1.1.keeps
  simp only [look]
  cases hb : beN t t' with
  | false => exact hk
  | true =>
    have e : t = t' := beN_t hb
    subst e
    rw [hj] at hk
    have := val_nils hk
    rw [this]
    refine full_val (val_sl_mk rfl (Nat.le_refl _) rfl (fun h => absurd rfl h))
theorem and3_go {A B C R : Prop} (h : A ∧ B ∧ C ∧ R) : (A ∧ B ∧ C) ∧ R := ⟨⟨h.1, h.2.1, h.2.2.1⟩, h.2.2.2⟩
theorem rel_row0 (z : Nat) {ρ : Ro} {σ : List Ent} {w : World} (h : Rel ρ σ w) : Stp ρ σ w (ρ.tipAt σ.length ⟨0, 0, 0, 0⟩) (σ ++ [.vec z []]) w ∧ Rel (ρ.tipAt σ.length ⟨0, 0, 0, 0⟩) (σ ++ [.vec z []]) w :=
  rel_new h rfl (by simp) rfl rfl rfl (fun _ _ h => h) (Nat.le_refl _) (fun hlt => by simp at hlt) (fun k x hk => by simp at hk)
theorem nilrow_val {w : World} {S : Nat → Nat → Prop} {ρ : Ro} {n id z : Nat} (hid : id < n) : Val w S ρ n (.vs id z 0 0 0) (.slice none 0 0) :=
  ⟨1, hid, none, 0, 0, rfl, rfl, Nat.le_refl _, fun h => absurd h (Nat.lt_irrefl 0), 0, rfl, by simp, fun _ hc => absurd hc (Nat.lt_irrefl 0)⟩
theorem Turn.at {n₀ : Nat} {s t : St} (m : Nat) (h : Turn n₀ s t) (_hm : beN (lenN s.hp) m = true) : Turn n₀ s t := h
theorem turn_nilr {n₀ : Nat} {s : St} (t z : Nat) (hj : look s.env t = .nils) (hn : n₀ ≤ s.hp.length) :
    Turn n₀ s ⟨(t, .vs (lenN s.hp) z 0 0 0) :: s.env, snoc s.hp (.vec z []), s.n⟩ := by
  intro ρ a w hs
  have h1 := rel_row0 z hs.rel
  rw [← snoc_eq] at h1
  refine ⟨ρ.tipAt s.hp.length ⟨0, 0, 0, 0⟩, ⟨hs.defers, hs.size, h1.2, fun t' => ?_⟩, h1.1.le hn⟩
  have hk := (hs.vals t').keep h1.1.keeps
  simp only [look]
  cases hb : beN t t' with
  | false => exact hk
  | true =>
    have e : t = t' := beN_t hb
    subst e
    rw [hj] at hk
    rw [val_nils hk]
    exact nilrow_val (by rw [lenN_eq, snoc_eq]; simp)
theorem turn_nilrh {n₀ : Nat} {s : St} (i j z : Nat) {cs : List AV} (hi : nth s.hp i = some (.var cs)) (hj : nth cs j = some .nils) (hn : n₀ ≤ s.hp.length) :
    Turn n₀ s ⟨s.env, setN (snoc s.hp (.vec z [])) i (.var (setN cs j (.vs (lenN s.hp) z 0 0 0))), s.n⟩ := by
  intro ρ a w hs
  rw [nth_eq] at hi hj
  have h1 := rel_row0 z hs.rel
  rw [← snoc_eq] at h1
  have hlt := lt_of_get hi
  have hi2 : (snoc s.hp (.vec z []))[i]? = some (.var cs) := by rw [snoc_eq, List.getElem?_append_left hlt]; exact hi
  have h2 := rel_reread h1.2 (i := i) (cs := cs) (cs' := setN cs j (.vs (lenN s.hp) z 0 0 0)) hi2 (fun vs hv => by
    obtain ⟨v, hv1, hv2⟩ := hv.get hj
    rw [val_nils hv2] at hv1
    have := hv.set (n := j) (a := .vs (lenN s.hp) z 0 0 0) (b := .slice none 0 0) (nilrow_val (by rw [lenN_eq, snoc_eq]; simp))
    rwa [set_same hv1] at this)
  have hst := h1.1.trans' h2.1
  exact ⟨ρ.tipAt s.hp.length ⟨0, 0, 0, 0⟩, ⟨hs.defers, hs.size, h2.2, fun t => (hs.vals t).keep hst.keeps⟩, hst.le hn⟩
theorem turn_mv {n₀ : Nat} {s : St} (i j p z : Nat) {lo n N : Int} {xs cs : List AV} (hi : nth s.hp i = some (.var cs)) (hj : nth cs j = some (.vs p z lo n N)) (hp : nth s.hp p = some (.vec z xs)) (hip : beN i p = false) (hn : n₀ ≤ s.hp.length) :
    Turn n₀ s ⟨s.env, setN (snoc (setN s.hp p .dead) (.vec z xs)) i (.var (setN cs j (.vs (lenN s.hp) z lo n N))), s.n⟩ := by
  intro ρ a w hs
  rw [nth_eq] at hi hj hp
  have h1 := rel_mv hs.rel hp
  have hlt := lt_of_get hi
  have hdl : (setN s.hp p .dead).length = s.hp.length := by rw [setN_eq]; simp
  have hne : i ≠ p := fun e => by subst e; simp at hip
  rw [← snoc_eq] at h1
  have hi2 : (snoc (setN s.hp p .dead) (.vec z xs))[i]? = some (.var cs) := by
    rw [snoc_eq, List.getElem?_append_left (by rw [hdl]; exact hlt), setN_eq, List.getElem?_set_ne (Ne.symm hne)]; exact hi
  have h2 := rel_reread h1.2 (i := i) (cs := cs) (cs' := setN cs j (.vs (lenN s.hp) z lo n N)) hi2 (fun vs hv => by
    obtain ⟨v, hv1, hv2⟩ := hv.get hj
    have hv3 : Val w (Stay (ρ.tipAt s.hp.length (ρ.t p)) (snoc (setN s.hp p .dead) (.vec z xs))) (ρ.tipAt s.hp.length (ρ.t p)) (snoc (setN s.hp p .dead) (.vec z xs)).length (.vs (lenN s.hp) z lo n N) v := by
      obtain ⟨hid, ad, len, cap, e1, e2, e3, e4, l, e5, e6, e7⟩ := val_vs hv2
      refine ⟨1, by rw [lenN_eq, snoc_eq]; simp [hdl], ad, len, cap, e1, e2, e3, e4, l, e5, e6, fun h0 hc => ?_⟩
      have hpl := lt_of_get hp
      have t1 : (ρ.tipAt s.hp.length (ρ.t p)).t (lenN s.hp) = ρ.t p := by rw [lenN_eq]; simp [Ro.tipAt]
      have t2 : (ρ.tipAt s.hp.length (ρ.t p)).t p = ρ.t p := by simp [Ro.tipAt]
      rw [t1] at h0 ⊢
      rw [t2] at e7
      exact e7 h0 hc
    have := hv.set (n := j) (a := .vs (lenN s.hp) z lo n N) (b := v) hv3
    rwa [set_same hv1] at this)
  have hst := h1.1.trans' h2.1
  exact ⟨ρ.tipAt s.hp.length (ρ.t p), ⟨hs.defers, hs.size, h2.2, fun t => (hs.vals t).keep hst.keeps⟩, hst.le hn⟩
theorem turn_mvg {n₀ : Nat} {s : St} (p z : Nat) {xs : List AV} (hp : nth s.hp p = some (.vec z xs)) (hn : n₀ ≤ s.hp.length) :
    Turn n₀ s ⟨s.env, snoc (setN s.hp p .dead) (.vec z xs), s.n⟩ := by
  intro ρ a w hs
  rw [nth_eq] at hp
  have h1 := rel_mv hs.rel hp
  rw [← snoc_eq] at h1
  exact ⟨ρ.tipAt s.hp.length (ρ.t p), ⟨hs.defers, hs.size, h1.2, fun t => (hs.vals t).keep h1.1.keeps⟩, h1.1.le hn⟩
noncomputable def isNil {α : Type} (l : List AV) (n : Bool) (k : Bool → Option α) : Option α := @ite _ (l = []) (Classical.propDecidable _) (@ite _ (k true = k false) (Classical.propDecidable _) (k true) none) (k n)
theorem nil_go {α : Type} {l : List AV} {n : Bool} {k : Bool → Option α} {r : α} {G : Bool → Prop} (H : isNil l n k = some r) (h : ∀ b, k b = some r → G b) : ∀ b : Bool, (l ≠ [] → b = n) → G b := fun b hb => by
  unfold isNil at H
  by_cases e : l = []
  · rw [if_pos e] at H
    by_cases e2 : k true = k false
    · rw [if_pos e2] at H
      cases b with
      | true => exact h _ H
      | false => exact h _ (e2 ▸ H)
    · rw [if_neg e2] at H; exact nomatch H
  · rw [if_neg e] at H
    rw [hb e]; exact h _ H
def wkVL (R : AV → AV → Prop) : List AV → List AV → Prop
  | [], [] => True
  | a :: l, b :: m => R a b ∧ wkVL R l m
  | _, _ => False
def wkV : Nat → AV → AV → Prop
  | 0, a, b => wk a b
  | n + 1, a, b => match b with
    | .tup m => match a with
      | .tup l => wkVL (wkV n) l m
      | _ => False
    | .agg m => match a with
      | .agg l => wkVL (wkV n) l m
      | _ => False
    | b => wk a b
theorem wkVL_vals {R : AV → AV → Prop} {Q : AV → Value → Prop} (h : ∀ a b v, R a b → Q a v → Q b v) : ∀ {l m : List AV} {vs : List Value}, wkVL R l m → All2 Q l vs → All2 Q m vs
  | [], [], _, _, hv => hv
  | _ :: _, _ :: _, _ :: _, hw, hv => ⟨h _ _ _ hw.1 hv.1, wkVL_vals h hw.2 hv.2⟩
  | _ :: _, _ :: _, [], _, hv => hv.elim
  | [], _ :: _, _, hw, _ => hw.elim
  | _ :: _, [], _, hw, _ => hw.elim
theorem wkV_val {w : World} {S : Nat → Nat → Prop} {ρ : Ro} {m : Nat} : ∀ (n : Nat) {a b : AV} {v : Value}, wkV n a b → Val w S ρ m a v → Val w S ρ m b v
  | 0, _, _, _, h, hv => wk_val (_m := 0) h hv
  | n + 1, a, b, v, h, hv => by
    unfold wkV at h
    split at h
    · split at h
      · obtain ⟨d, hv⟩ := hv
        cases d with
        | zero => exact hv.elim
        | succ d =>
          obtain ⟨vs, rfl, hv⟩ := hv
          obtain ⟨d', hd⟩ := all2_depth (wkVL_vals (Q := Val w S ρ m) (fun a b v h hv => wkV_val n h hv) h (hv.imp fun _ _ h => ⟨d, h⟩))
          exact ⟨d' + 1, vs, rfl, hd⟩
      · exact h.elim
    · split at h
      · obtain ⟨d, hv⟩ := hv
        cases d with
        | zero => exact hv.elim
        | succ d =>
          obtain ⟨vs, rfl, hv⟩ := hv
          obtain ⟨d', hd⟩ := all2_depth (wkVL_vals (Q := Val w S ρ m) (fun a b v h hv => wkV_val n h hv) h (hv.imp fun _ _ h => ⟨d, h⟩))
          exact ⟨d' + 1, vs, rfl, hd⟩
      · exact h.elim
    · exact wk_val (_m := 0) h hv
theorem rel_wk {ρ : Ro} {σ τ : List Ent} {w : World} (h2 : wkH σ τ) (h3 : τ.all (okE (lenN τ)) = true) (hr : Rel ρ σ w) :
    Rel ρ τ w ∧ Stp ρ σ w ρ τ w ∨ τ.length < σ.length := by
  by_cases hlt : τ.length < σ.length
  · exact .inr hlt
  · left
    have hlen := wkH_len h2
    simp only [List.all_eq_true, lenN_eq] at h3
    have hS : ∀ b o, Stay ρ σ b o → Stay ρ τ b o := fun b o hb => ⟨fun ho => hb.1 (own_wk h2 ho), hb.2⟩
    have kp : ∀ {n : Nat}, Keeps w w (Stay ρ σ) (Stay ρ τ) ρ ρ n n := ⟨fun b o u hb hc => ⟨hS b o hb, hc⟩, Nat.le_refl _, fun _ _ => rfl, fun _ _ => .inl rfl, .refl _⟩
    have val : ∀ {a : AV} {v : Value}, okV τ.length 6 a = true → Val w (Stay ρ σ) ρ σ.length a v → Val w (Stay ρ τ) ρ τ.length a v := by
      rintro a v ho ⟨d, hv⟩
      exact ⟨d, okV_val 6 ho (Cz.keep d kp a v hv)⟩
    refine ⟨⟨fun i f hi => ?_, fun i j f g b o hi hj hf hg => ?_, hr.xlt, fun b o ho => hr.xown b o (own_wk h2 ho), hr.gok⟩, ?_⟩
    · obtain ⟨e, he, hwe⟩ := wkH_get h2 i f hi
      have hok := h3 f (List.mem_of_getElem? hi)
      have hent := hr.ents i e he
      cases f with
      | dead => trivial
      | var cs' =>
        cases e <;> simp only [wkE] at hwe
        obtain ⟨vs, ty, hv, hb⟩ := hent
        refine ⟨vs, ty, ?_, hb⟩
        exact (wkL_vals hwe hv).imp_mem fun x hx y hy => val (List.all_eq_true.1 hok x hx) hy
      | tip p =>
        cases e <;> simp only [wkE] at hwe
        subst hwe; exact hent
      | vec s xs =>
        cases e <;> simp only [wkE] at hwe
        obtain ⟨rfl, rfl⟩ := hwe
        obtain ⟨q1, q2, q3, q4⟩ := hent
        exact ⟨q1, q2, q3, fun k x hx => let ⟨vs, a1, a2, a3⟩ := q4 k x hx; ⟨vs, a1.imp fun _ _ h => h.keep kp, a2, a3⟩⟩
      | fam u os =>
        cases e <;> simp only [wkE] at hwe
        obtain ⟨rfl, rfl⟩ := hwe
        obtain ⟨q0, q1, q2⟩ := hent
        exact ⟨q0, q1, fun j x hx => let ⟨vs, ty, a1, a2⟩ := q2 j x hx; ⟨vs, ty, a1.imp fun _ _ h => h.keep kp, a2⟩⟩
      | mp es =>
        cases e <;> simp only [wkE] at hwe
        subst hwe
        obtain ⟨ms, c, hb, hv, hr⟩ := hent
        exact ⟨ms, c, hb, hv.imp fun _ _ h => ⟨h.1.keep kp, h.2.keep kp⟩, hr⟩
      | lp ps asg body env k st pe =>
        simp only [wkE] at hwe
        subst hwe
        obtain ⟨r, g1, g2, g3, g4, g5, g6, g7, g8⟩ := hent
        refine ⟨r, g1, g2, g3, g4, g5, g6, g7, fun u => ?_⟩
        rcases look_mem (e := env) (t := u) with hj | ⟨k', hk⟩
        · rw [hj]; exact Val.junk
        · exact val (List.all_eq_true.1 hok _ hk) (g8 u)
    · obtain ⟨e, he, hwe⟩ := wkH_get h2 i f hi
      obtain ⟨e', he', hwe'⟩ := wkH_get h2 j g hj
      have conv : ∀ {i : Nat} {e f : Ent}, wkE e f → OwnE ρ i b o f → OwnE ρ i b o e := by
        intro i e f hwe ho
        cases f <;> simp only [wkE] at hwe <;> cases e <;> first | exact ho | exact hwe.elim | exact ho.elim | (obtain ⟨rfl, rfl⟩ := hwe; exact ho) | cases hwe
      exact hr.disj i j e e' b o he he' (conv hwe hf) (conv hwe' hg)
    · exact ⟨rfl, rfl, rfl, Nat.le_refl _, fun b ob hb => ⟨ob, hb, okBlk.refl _ _⟩, fun b o _ ho => own_wk h2 ho, by omega, fun _ _ => rfl, fun _ _ => .inl rfl, rfl, rfl, .of fun i t' os hi => by
      obtain ⟨e, he, hwe⟩ := wkH_get h2 i _ hi
      cases e <;> simp only [wkE] at hwe
      obtain ⟨rfl, rfl⟩ := hwe
      exact ⟨i, _, he⟩⟩
theorem told_wk {r r' : AV} {τ τ' : List Ent} {K : AV → List Ent → Prop} (h1 : wkV 3 r r') (h2 : wkH τ τ') (h3 : (beN (lenN τ) (lenN τ') && okV (lenN τ') 9 r' && τ'.all (okE (lenN τ'))) = true) (hk : K r' τ') : Told r τ K := by
  intro ρ w v hr hv
  simp only [Bool.and_eq_true] at h3
  have hl := beN_t h3.1.1
  rw [lenN_eq, lenN_eq] at hl
  rcases rel_wk h2 h3.2 hr with ⟨hr', hst⟩ | h
  · refine ⟨ρ, τ', r', hst, hr', hk, ?_⟩
    obtain ⟨d, hd⟩ := wkV_val 3 h1 (hv.keep hst.keeps)
    have := h3.1.2
    rw [lenN_eq] at this
    exact ⟨d, okV_val 9 this hd⟩
  · omega
theorem call_wk {P : Program} {f : FuncId} {args : List AV} {σ : List Ent} {K E : AV → List Ent → Prop}
    (h : ∀ K' : AV → List Ent → Prop, (∀ r τ r' τ', wkV 3 r r' → wkH τ τ' → (beN (lenN τ) (lenN τ') && okV (lenN τ') 9 r' && τ'.all (okE (lenN τ'))) = true → K r' τ' → K' r τ) → CallA P f args σ K' E) : CallA P f args σ K E :=
  call_told (K' := fun r τ => ∃ r' τ', wkV 3 r r' ∧ wkH τ τ' ∧ (beN (lenN τ) (lenN τ') && okV (lenN τ') 9 r' && τ'.all (okE (lenN τ'))) = true ∧ K r' τ') (h _ fun _r _τ r' τ' h1 h2 h3 h4 => ⟨r', τ', h1, h2, h3, h4⟩)
    fun _r _τ ⟨_r', _τ', h1, h2, h3, h4⟩ => told_wk h1 h2 h3 h4
theorem wkTL_ok {f : AV → AV → AV} (h : ∀ t a, Wk a (f t a)) : ∀ (ts l : List AV), WkL l (wkTL f ts l)
  | [], l => by
    have : ∀ m : List AV, WkL m m := fun m => by
      induction m with
      | nil => exact trivial
      | cons y m ih => exact ⟨Wk.rfl', ih⟩
    exact this l
  | t :: ts, [] => trivial
  | t :: ts, a :: l => ⟨h t a, wkTL_ok h ts l⟩
theorem wkTo_ok (d : Nat) (t a : AV) : Wk a (wkTo d t a) := fun _ _ _ _ _ h => wkTo_val d t h
theorem call_weakF {P : Program} {n₀ : Nat} {J : Jd} (hJ : J = std P n₀) (ts : List AV) {f : FuncId} {args : List AV} {σ : List Ent} {K E : AV → List Ent → Prop} (h : J.call f (wkTL (wkTo 6) ts args) σ K E) : J.call f args σ K E :=
  call_weak hJ (wkTL_ok (wkTo_ok 6) ts args) h
theorem pure_weakF {P : Program} {n₀ : Nat} {J : Jd} (hJ : J = std P n₀) (ts : List AV) {f : FuncId} {args : List AV} {K : AV → Prop} (h : J.pure f (wkTL (wkTo 6) ts args) K) : J.pure f args K := by
  subst hJ
  obtain ⟨r, h1, h2⟩ := h
  exact ⟨r, fun σ K E hk => call_weakF (J := std P n₀) rfl ts (h1 σ K E hk), h2⟩
theorem mkT_weakF {P : Program} {n₀ : Nat} {J : Jd} (hJ : J = std P n₀) (ts : List AV) {f : FuncId} {args : List AV} {K : AV → Nat → Prop} (h : J.mkT f (wkTL (wkTo 6) ts args) K) : J.mkT f args K := by
  subst hJ
  obtain ⟨r, pos, h1, h2⟩ := h
  exact ⟨r, pos, fun σ K E hk => call_weakF (J := std P n₀) rfl ts (h1 σ K E hk), h2⟩
theorem kn_bnot_t {o : Ops} (ho : o = stdOps) {a : Bool} (h : a = false) : o.bnot a = true := by subst ho h; rfl
theorem kn_cmp {o : Ops} (ho : o = stdOps) {p : BinOp} {a b : Int} {v : Bool} (h : stdOps.cmp p a b = v) : o.cmp p a b = v := by subst ho; exact h
theorem kn_bnot_f {o : Ops} (ho : o = stdOps) {a : Bool} (h : a = true) : o.bnot a = false := by subst ho h; rfl
theorem kn_band_t {o : Ops} (ho : o = stdOps) {a b : Bool} (h : a = true) (h' : b = true) : o.band a b = true := by subst ho h h'; rfl
theorem kn_band_f {o : Ops} (ho : o = stdOps) {a b : Bool} (h : a = false) : o.band a b = false := by subst ho h; rfl
theorem kn_band_g {o : Ops} (ho : o = stdOps) {a b : Bool} (h : b = false) : o.band a b = false := by subst ho h; cases a <;> rfl
theorem kn_pick_t {o : Ops} (ho : o = stdOps) {c a b v : Bool} (h : c = true) (h' : a = v) : o.pick c a b = v := by subst ho h h'; rfl
theorem kn_pick_s {o : Ops} (ho : o = stdOps) {c a b v : Bool} (h : a = v) (h' : b = v) : o.pick c a b = v := by subst ho h h'; cases c <;> first | rfl | assumption | (symm; assumption)
theorem kn_same_t {o : Ops} (ho : o = stdOps) {a b v : Bool} (h : a = v) (h' : b = v) : o.same a b = true := by subst ho h h'; cases b <;> rfl
theorem kn_same_f {o : Ops} (ho : o = stdOps) {a b v : Bool} (h : a = v) (h' : b = !v) : o.same a b = false := by subst ho h'; subst h; cases a <;> rfl
theorem ku_same_t {o : Ops} (ho : o = stdOps) {a b v : Bool} (h : o.same a b = true) (h' : a = v) : b = v := by subst ho h'; revert h; cases a <;> cases b <;> decide
theorem ku_same_f {o : Ops} (ho : o = stdOps) {a b v : Bool} (h : o.same a b = false) (h' : a = v) : b = !v := by subst ho h'; revert h; cases a <;> cases b <;> decide
theorem ku_emas_t {o : Ops} (ho : o = stdOps) {a b v : Bool} (h : o.same a b = true) (h' : b = v) : a = v := by subst ho h'; revert h; cases a <;> cases b <;> decide
theorem ku_emas_f {o : Ops} (ho : o = stdOps) {a b v : Bool} (h : o.same a b = false) (h' : b = v) : a = !v := by subst ho h'; revert h; cases a <;> cases b <;> decide
theorem ku_bnot_t {o : Ops} (ho : o = stdOps) {a : Bool} (h : o.bnot a = true) : a = false := by subst ho; revert h; cases a <;> decide
theorem ku_bnot_f {o : Ops} (ho : o = stdOps) {a : Bool} (h : o.bnot a = false) : a = true := by subst ho; revert h; cases a <;> decide
theorem ku_band_l {o : Ops} (ho : o = stdOps) {a b : Bool} (h : o.band a b = true) : a = true := by subst ho; revert h; cases a <;> cases b <;> decide
theorem ku_band_r {o : Ops} (ho : o = stdOps) {a b : Bool} (h : o.band a b = true) : b = true := by subst ho; revert h; cases a <;> cases b <;> decide
theorem ku_or_l {o : Ops} (ho : o = stdOps) {a b : Bool} (h : o.pick a true b = false) : a = false := by subst ho; revert h; cases a <;> cases b <;> decide
theorem ku_or_r {o : Ops} (ho : o = stdOps) {a b : Bool} (h : o.pick a true b = false) : b = false := by subst ho; revert h; cases a <;> cases b <;> decide
theorem ku_and_l {o : Ops} (ho : o = stdOps) {a b : Bool} (h : o.pick a b false = true) : a = true := by subst ho; revert h; cases a <;> cases b <;> decide
theorem ku_and_r {o : Ops} (ho : o = stdOps) {a b : Bool} (h : o.pick a b false = true) : b = true := by subst ho; revert h; cases a <;> cases b <;> decide
theorem kn_pick_f {o : Ops} (ho : o = stdOps) {c a b v : Bool} (h : c = false) (h' : b = v) : o.pick c a b = v := by subst ho h h'; rfl
theorem gk_tt {o : Ops} (ho : o = stdOps) {g t : Bool} {G1 G2 : Prop} (h : o.band g t = true) (x : G1) : (g = true → t = true → G1) ∧ ((g = true → t = false) → G2) :=
  ⟨fun _ _ => x, fun e => by subst ho; cases g <;> cases t <;> simp_all [stdOps]⟩
theorem gk_ft {o : Ops} (ho : o = stdOps) {g t : Bool} {G1 G2 : Prop} (h : o.band g t = false) (x : G2) : (g = true → t = true → G1) ∧ ((g = true → t = false) → G2) :=
  ⟨fun e1 e2 => by subst ho; cases g <;> cases t <;> simp_all [stdOps], fun _ => x⟩
theorem gk_tf {o : Ops} (ho : o = stdOps) {g t : Bool} {G1 G2 : Prop} (h : o.band g (o.bnot t) = true) (x : G1) : (g = true → t = false → G1) ∧ ((g = true → t = true) → G2) :=
  ⟨fun _ _ => x, fun e => by subst ho; cases g <;> cases t <;> simp_all [stdOps]⟩
theorem gk_ff {o : Ops} (ho : o = stdOps) {g t : Bool} {G1 G2 : Prop} (h : o.band g (o.bnot t) = false) (x : G2) : (g = true → t = false → G1) ∧ ((g = true → t = true) → G2) :=
  ⟨fun e1 e2 => by subst ho; cases g <;> cases t <;> simp_all [stdOps], fun _ => x⟩
theorem tf_absurd {b : Bool} {C : Prop} (h : b = true) (h' : b = false) : C := by subst h; exact nomatch h'
theorem known_t {b : Bool} {G1 G2 : Prop} (h : b = true) (g : G1) : (b = true → G1) ∧ (b = false → G2) := ⟨fun _ => g, fun e => by rw [h] at e; exact nomatch e⟩
theorem known_f {b : Bool} {G1 G2 : Prop} (h : b = false) (g : G2) : (b = true → G1) ∧ (b = false → G2) := ⟨fun e => by rw [h] at e; exact (nomatch e), fun _ => g⟩
theorem known_x {b : Bool} {G1 G2 : Prop} (h : b = false) (g : G1) : (b = false → G1) ∧ (b = true → G2) := ⟨fun _ => g, fun e => by rw [h] at e; exact nomatch e⟩
theorem known_y {b : Bool} {G1 G2 : Prop} (h : b = true) (g : G2) : (b = false → G1) ∧ (b = true → G2) := ⟨fun e => by rw [h] at e; exact (nomatch e), fun _ => g⟩
theorem lit_t {G1 G2 : Prop} (g : G1) : (true = true → G1) ∧ (true = false → G2) := ⟨fun _ => g, fun e => nomatch e⟩
theorem lit_f {G1 G2 : Prop} (g : G2) : (false = true → G1) ∧ (false = false → G2) := ⟨fun e => (nomatch e), fun _ => g⟩
theorem known_get {x : Option AV} {e0 : AV} {G : AV → Prop} (h : x = some e0) (g : G e0) : ∀ e, x = some e → G e := fun e he => by rw [h] at he; obtain rfl := Option.some.inj he; exact g
theorem known_and {p G : Prop} (h : p) (g : G) : p ∧ G := ⟨h, g⟩
end Go.Pt
namespace Go.Pt
open Go
theorem wr_i64 {n : Int} (h : -9223372036854775808 ≤ n) (h' : n ≤ 9223372036854775807) : IntKind.i64.wrap n = n := by
  unfold IntKind.wrap; simp [IntKind.bits, IntKind.signed]; omega
theorem wr_u64 {n : Int} (h : 0 ≤ n) (h' : n < 18446744073709551616) : IntKind.u64.wrap n = n := by
  unfold IntKind.wrap; simp [IntKind.bits, IntKind.signed]; omega
theorem wr_u64m (n : Int) : IntKind.u64.wrap n = n % 18446744073709551616 := by
  unfold IntKind.wrap; simp [IntKind.bits, IntKind.signed]
theorem wr_u8 {n : Int} (h : 0 ≤ n) (h' : n < 256) : IntKind.u8.wrap n = n := by
  unfold IntKind.wrap; simp [IntKind.bits, IntKind.signed]; omega
theorem wr_u8m (n : Int) : IntKind.u8.wrap n = n % 256 := by
  unfold IntKind.wrap; simp [IntKind.bits, IntKind.signed]
theorem ifB_t {α : Type} {b : Bool} {x y : Option α} (h : b = true) : ifB b x y = x := by subst h; rfl
theorem ifB_f {α : Type} {b : Bool} {x y : Option α} (h : b = false) : ifB b x y = y := by subst h; rfl
theorem bindR_eq {α β : Type} {x : Option β} {v : β} {k : β → Option α} (h : x = some v) : bindR x k = k v := by subst h; rfl
theorem getA_eq {α β : Type} {x : Option β} {v : β} {k : β → Option α} (h : x = some v) : getA x k = k v := by subst h; rfl
theorem req_is {α : Type} {p : Prop} {x r : Option α} (h : p) (h2 : x = r) : req p x = r := (req_eq x h).trans h2
theorem ifB_is_t {α : Type} {b : Bool} {x y r : Option α} (h : b = true) (h2 : x = r) : ifB b x y = r := (ifB_t h).trans h2
theorem ifB_is_f {α : Type} {b : Bool} {x y r : Option α} (h : b = false) (h2 : y = r) : ifB b x y = r := (ifB_f h).trans h2
theorem bindR_is {α β : Type} {x : Option β} {v : β} {k : β → Option α} {r : Option α} (h : x = some v) (h2 : k v = r) : bindR x k = r := (bindR_eq h).trans h2
theorem getA_is {α β : Type} {x : Option β} {v : β} {k : β → Option α} {r : Option α} (h : x = some v) (h2 : k v = r) : getA x k = r := (getA_eq h).trans h2
theorem or128 {x : Nat} (h : x < 256) : bits .or .u8 (x : Int) 128 = ((x % 128 + 128 : Nat) : Int) := by
  have key : ∀ x : Fin 256, bits .or .u8 (x.val : Int) 128 = ((x.val % 128 + 128 : Nat) : Int) := by decide +kernel
  exact key ⟨x, h⟩
theorem and127 {x : Nat} (h : x < 256) : bits .and .u8 (x : Int) 127 = ((x % 128 : Nat) : Int) := by
  have key : ∀ x : Fin 256, bits .and .u8 (x.val : Int) 127 = ((x.val % 128 : Nat) : Int) := by decide +kernel
  exact key ⟨x, h⟩
theorem xor0 {x : Int} (h : 0 ≤ x) (h' : x < 18446744073709551616) : bits .xor .u64 x 0 = x := by
  unfold bits
  have h1 : (BitVec.ofInt IntKind.u64.bits x ^^^ BitVec.ofInt IntKind.u64.bits 0).toNat = x.toNat := by
    show (BitVec.ofInt 64 x ^^^ BitVec.ofInt 64 0).toNat = x.toNat
    have : BitVec.ofInt 64 0 = 0#64 := rfl
    rw [this, BitVec.xor_zero, BitVec.toNat_ofInt]
    omega
  simp only [h1]
  rw [wr_u64 (by omega) (by omega)]; omega
theorem xorAll {x : Int} (h : 0 ≤ x) (h' : x < 18446744073709551616) : bits .xor .u64 x 18446744073709551615 = 18446744073709551615 - x := by
  unfold bits
  have h1 : (BitVec.ofInt IntKind.u64.bits x ^^^ BitVec.ofInt IntKind.u64.bits 18446744073709551615).toNat = 18446744073709551615 - x.toNat := by
    show (BitVec.ofInt 64 x ^^^ BitVec.ofInt 64 18446744073709551615).toNat = _
    have : BitVec.ofInt 64 18446744073709551615 = BitVec.allOnes 64 := by decide
    rw [this, BitVec.xor_allOnes, BitVec.toNat_not, BitVec.toNat_ofInt]
    omega
  simp only [h1]
  rw [wr_u64 (by omega) (by omega)]; omega
def byt (b : Nat) : AV := .int .u8 (b : Int)
def gh : Nat → Nat → List Nat
  | 0, _ => []
  | f + 1, u => if u = 0 then [] else gh f (u / 128) ++ [u % 128 + 128]
def form (u : Nat) : List Nat := gh 10 (u / 128) ++ [u % 128]
def zz (n : Int) : Nat := if 0 ≤ n then (2 * n).toNat else (-2 * n - 1).toNat
def hi (u : Nat) : Nat → List Nat
  | 0 => []
  | k + 1 => (u / 128 ^ (k + 1) % 128 + 128) :: hi u k
theorem hi_snoc : ∀ (k u : Nat), hi u (k + 1) = hi (u / 128) k ++ [u / 128 % 128 + 128]
  | 0, u => by simp [hi]
  | k + 1, u => by
    rw [hi, hi_snoc k u, hi]
    have : u / 128 ^ (k + 1 + 1) = u / 128 / 128 ^ (k + 1) := by rw [Nat.div_div_eq_div_mul, Nat.pow_succ, Nat.mul_comm]
    rw [this]; rfl
theorem gh_zero : ∀ f, gh f 0 = []
  | 0 => rfl
  | f + 1 => by simp [gh]
theorem gh_more : ∀ (k f u : Nat), u < 128 ^ k → k ≤ f → gh f u = gh k u
  | 0, f, u, h, _ => by
    have : u = 0 := by simpa using h
    subst this; rw [gh_zero, gh_zero]
  | k + 1, f, u, h, hf => by
    obtain ⟨f, rfl⟩ : ∃ g, f = g + 1 := ⟨f - 1, by omega⟩
    rw [gh, gh]
    split
    · rfl
    · rw [gh_more k f (u / 128) (by rw [Nat.div_lt_iff_lt_mul (by decide), ← Nat.pow_succ]; exact h) (by omega)]
theorem hi_gh : ∀ (k u : Nat), u < 128 ^ (k + 1) → (k = 0 ∨ 128 ^ k ≤ u) → hi u k = gh k (u / 128)
  | 0, u, _, _ => rfl
  | k + 1, u, h, h2 => by
    have h3 : 128 ^ (k + 1) ≤ u := by rcases h2 with h2 | h2 <;> omega
    have h4 : u / 128 < 128 ^ (k + 1) := by rw [Nat.div_lt_iff_lt_mul (by decide), ← Nat.pow_succ]; exact h
    have h5 : 128 ^ k ≤ u / 128 := by rw [Nat.le_div_iff_mul_le (by decide), ← Nat.pow_succ]; exact h3
    have h6 : 0 < 128 ^ k := Nat.pow_pos (by decide)
    rw [hi_snoc, hi_gh k (u / 128) h4 (.inr h5), gh, if_neg (by omega)]
end Go.Pt
namespace Go.Pt
open Go
section
variable {P : Program} {n₀ : Nat} {tab : Nat → Ty} {w : World} {ρ : Ro} {σ : List Ent}
def zipEnv : List Nat → List AV → List (Nat × AV) → List (Nat × AV)
  | p :: ps, v :: vs, env => zipEnv ps vs ((p, v) :: env)
  | _, _, env => env
def allLt : List Nat → Nat → Bool
  | [], _ => true
  | p :: ps, n => match ltN p n with | true => allLt ps n | false => false
theorem rel_loop (h : Rel ρ σ w) {i : Nat} {ps : List Nat} {asg body : Code} {env : List (Nat × AV)} {k : Nat} {st st' : LoopState} {pe pe' : Option Code}
    (hi : σ[i]? = some (.lp ps asg body env k st pe)) {r : Loop} (hr : w.heap[ρ.b i]? = some (.loop r)) :
    Stp ρ σ w ρ (setN σ i (.lp ps asg body env k st' pe')) (w.putObj (ρ.b i) (.loop { r with state := st', pending := pe' })) ∧
      Rel ρ (setN σ i (.lp ps asg body env k st' pe')) (w.putObj (ρ.b i) (.loop { r with state := st', pending := pe' })) := by
  have hnew := World.putObj_heap_same (w := w) (o := .loop { r with state := st', pending := pe' }) (lt_of_heap hr)
  have oth : ∀ {b : Nat}, b ≠ ρ.b i → (w.putObj (ρ.b i) (.loop { r with state := st', pending := pe' })).heap[b]? = w.heap[b]? := fun h => World.putObj_heap_other h
  have hlen : (setN σ i (.lp ps asg body env k st' pe')).length = σ.length := by rw [setN_eq]; simp
  have hown : ∀ b o, Own ρ (setN σ i (.lp ps asg body env k st' pe')) b o ↔ Own ρ σ b o := by
    intro b o
    constructor
    · rintro ⟨j, f, hj, ho⟩
      rcases get_set hj with ⟨rfl, rfl⟩ | ⟨hne, hj⟩
      · exact ⟨j, _, hi, ho⟩
      · exact ⟨j, f, hj, ho⟩
    · rintro ⟨j, f, hj, ho⟩
      by_cases hne : j = i
      · subst hne
        rw [hi] at hj; simp at hj; subst hj
        exact ⟨j, .lp ps asg body env k st' pe', by rw [setN_eq]; simp [lt_of_get hi], ho⟩
      · exact ⟨j, f, by rw [setN_eq, List.getElem?_set]; simp [Ne.symm hne, hj], ho⟩
  have hst : Stp ρ σ w ρ (setN σ i (.lp ps asg body env k st' pe')) (w.putObj (ρ.b i) (.loop { r with state := st', pending := pe' })) := by
    refine ⟨rfl, rfl, rfl, by rw [World.putObj_size]; exact Nat.le_refl _, fun b ob hob => ?_, fun b o _ ho => (hown b o).1 ho, by omega, fun _ _ => rfl, fun _ _ => .inl rfl, rfl, rfl, .set (fun _ _ h => by cases h)⟩
    by_cases hbb : b = ρ.b i
    · subst hbb
      rw [hr] at hob; simp at hob; subst hob
      exact ⟨_, hnew, _, rfl, rfl, .inl ⟨i, _, hi, rfl⟩⟩
    · exact ⟨ob, by rw [oth hbb]; exact hob, okBlk.refl _ _⟩
  refine ⟨hst, fun j f hj => ?_, fun j l f g b o hj hl hf hg => ?_, fun b o ho => by rw [World.putObj_size]; exact h.xlt b o ho, fun b o ho => h.xown b o ((hown b o).1 ho), hst.gok h⟩
  · rcases get_set hj with ⟨rfl, rfl⟩ | ⟨hne, hj⟩
    · obtain ⟨r0, g1, g2, g3, g4, g5, g6, g7, g8⟩ := h.ents j _ hi
      rw [hr] at g1; simp at g1; subst g1
      exact ⟨_, hnew, g2, g3, g4, rfl, rfl, g7, fun t => (g8 t).step hst⟩
    · refine (h.ents j f hj).keep hst.keeps (lt_of_get hj) rfl (fun hk => ?_) (fun hp hlt c e' f' hc => ?_) (fun t os he => ⟨rfl, fun m hm => by subst he; exact oth (fam_apart (o := 0) h hj hi hne rfl m hm)⟩)
      · refine oth fun e => hne ?_
        refine h.disj j i f _ (ρ.b i) 0 hj hi ?_ rfl
        cases f <;> simp_all [Ent.blk, OwnE]
      · refine ⟨c, ?_, rfl, fun _ _ _ => rfl⟩
        rw [oth fun e => by rw [e, hr] at hc; simp at hc]; exact hc
  · have back : ∀ j f, (setN σ i (.lp ps asg body env k st' pe'))[j]? = some f → OwnE ρ j b o f → ∃ f', σ[j]? = some f' ∧ OwnE ρ j b o f' := by
      intro j f hj ho
      rcases get_set hj with ⟨rfl, rfl⟩ | ⟨hne, hj⟩
      · exact ⟨_, hi, ho⟩
      · exact ⟨f, hj, ho⟩
    obtain ⟨f', hj', hf'⟩ := back j f hj hf
    obtain ⟨g', hl', hg'⟩ := back l g hl hg
    exact h.disj j l f' g' b o hj' hl' hf' hg'
theorem zip_vals {S : Nat → Nat → Prop} {n k : Nat} : ∀ {ps : List Nat} {vs : List AV} {us : List Value} {env : List (Nat × AV)} {tmps : Array Value}, allLt ps k = true → tmps.size = k → All2 (Val w S ρ n) vs us → ps.length = vs.length →
    (∀ t, Val w S ρ n (look env t) (tmps.getD t undef)) →
    ((ps.zip us).foldl (fun tmps (x : Nat × Value) => tmps.setIfInBounds x.1 x.2) tmps).size = k ∧
    ∀ t, Val w S ρ n (look (zipEnv ps vs env) t) (((ps.zip us).foldl (fun tmps (x : Nat × Value) => tmps.setIfInBounds x.1 x.2) tmps).getD t undef)
  | [], [], [], env, tmps, _, hs, _, _, h => ⟨hs, h⟩
  | p :: ps, v :: vs, u :: us, env, tmps, hp, hs, hv, hl, h => by
    simp only [allLt] at hp
    split at hp
    case h_2 => simp at hp
    rename_i hlt
    have hlt' : p < tmps.size := by rw [hs]; simpa [ltN_eq] using hlt
    simp only [List.zip_cons_cons, List.foldl_cons, zipEnv]
    refine zip_vals hp (by simp [hs]) hv.2 (by simpa using hl) fun t => ?_
    simp only [look]
    split
    · rename_i e
      have := beN_t e; subst this
      simp [Array.getD, hlt']; exact hv.1
    · rename_i e
      have hne : p ≠ t := fun he => by subst he; simp at e
      have : (tmps.setIfInBounds p u).getD t undef = tmps.getD t undef := by
        simp [Array.getD_eq_getD_getElem?, hne]
      rw [this]; exact h t
  | [], [], _ :: _, _, _, _, _, hv, _, _ => hv.elim
  | _ :: _, _ :: _, [], _, _, _, _, hv, _, _ => hv.elim
  | [], _ :: _, _, _, _, _, _, _, hl, _ => by simp at hl
  | _ :: _, [], _, _, _, _, _, _, hl, _ => by simp at hl
def roundQ (i : Nat) (K : AV → List Ent → Prop) : Ex → St → Prop
  | .normal, s => match nth s.hp i with
    | some (.lp ps a b env n .busy _) => K (.bl true) (setN s.hp i (.lp ps a b env n .ready none))
    | _ => False
  | .exit id, s => match nth s.hp i with
    | some (.lp ps a b env n .busy _) => K (.bl false) (setN s.hp i (.lp ps a b env n .done (some (.exit id))))
    | _ => False
  | .ret, s => match nth s.hp i with
    | some (.lp ps a b env n .busy _) => K (.bl false) (setN s.hp i (.lp ps a b env n .done (some .ret)))
    | _ => False
  | .pan _, _ => False
def asgQ (J : Jd) (tab : Nat → Ty) (i : Nat) (body : Code) (K : AV → List Ent → Prop) : Ex → St → Prop
  | .normal, s => match nth s.hp i with
    | some (.lp ps a b env n .ready pe) => awp J tab body (roundQ i K) ⟨s.env, setN s.hp i (.lp ps a b env n .busy pe), s.n⟩
    | _ => False
  | _, _ => False
theorem yield_at {J : Jd} (hJ : J = std P n₀) (ht : TabOk P tab) {i : Nat} {args : List AV} {K : AV → List Ent → Prop} {ps : List Nat} {asg body : Code} {env : List (Nat × AV)} {n : Nat} {pe : Option Code}
    (hi : nth σ i = some (.lp ps asg body env n .ready pe)) (hl : beN (lenN ps) (lenN args) = true) (hp : allLt ps n = true)
    (h : ∀ J, J = std P (lenN σ) → awp J tab asg (asgQ J tab i body K) ⟨zipEnv ps args env, σ, n⟩) : J.yld i args σ K := by
  subst hJ
  intro ρ w vs hrel hvs
  rw [nth_eq] at hi
  obtain ⟨r, g1, g2, g3, g4, g5, g6, g7, g8⟩ := hrel.ents i _ hi
  have hl' : ps.length = args.length := by have := beN_t hl; rwa [lenN_eq, lenN_eq] at this
  have hlv := hvs.length
  have hz := zip_vals hp g7 hvs hl' g8
  have hzip : (r.params.zip vs.toArray).foldl (fun tmps (t, a) => tmps.setIfInBounds t a) r.tmps = (ps.zip vs).foldl (fun tmps (x : Nat × Value) => tmps.setIfInBounds x.1 x.2) r.tmps := by
    rw [g2]; simp
  refine ⟨r.fn, _, r.assign, r.body, run_yield g1 (by rw [g2]; simp; omega), ?_⟩
  rw [hzip, g3, g4]
  have hcode := awp_sound ht asg _ _ (h _ rfl)
  rw [lenN_eq] at hcode
  have hrd : IsRound (some (ρ.b i)) w := fun l hl => by simp at hl; subst hl; exact ⟨r, g1⟩
  have hs : RelS (ρ.floor 0) ⟨zipEnv ps args env, σ, n⟩ ⟨(ps.zip vs).foldl (fun tmps (x : Nat × Value) => tmps.setIfInBounds x.1 x.2) r.tmps, []⟩ w :=
    ⟨Nat.zero_le _, hz.1, floor_rel hrel, fun t => (hz.2 t).keep floor_keeps⟩
  refine roundIn_of_wpIn (F := Fence.wide) trivial (wpIn_mono (hcode (some (ρ.b i)) (ρ.floor 0) _ w (Nat.le_refl _) hrd hs) ?_)
  rintro e a1 w1 ⟨x1, s1, ρ1, hq1, hx1, hr1, hst1⟩
  have hst1' : Stp (ρ.floor 0) σ w ρ1 s1.hp w1 := hst1
  have hb1 : ρ1.b i = ρ.b i := hst1'.rb i (lt_of_get hi)
  cases x1 with
  | exit _ => exact hq1.elim
  | ret => exact hq1.elim
  | pan _ => exact hq1.elim
  | normal =>
    simp only [exOk] at hx1; subst hx1
    simp only [asgQ] at hq1
    split at hq1
    case h_2 => exact hq1.elim
    rename_i ps1 asg1 body1 env1 n1 pe1 hn1
    rw [nth_eq] at hn1
    obtain ⟨r1, k1, k2, k3, k4, k5, k6, k7, k8⟩ := hr1.rel.ents i _ hn1
    have hbusy := rel_loop (st' := .busy) (pe' := pe1) hr1.rel hn1 k1
    have hrec : ({ r1 with state := .busy, pending := pe1 } : Loop) = { r1 with state := .busy } := by rw [← k6]
    rw [hrec] at hbusy
    refine ⟨_, run_beginRound (hb1 ▸ k1) k5, ?_⟩
    rw [← hb1]
    have hb1' : ρ1.b i = (ρ.floor 0).b i := hb1
    have hc2 := awp_sound ht body _ _ hq1
    have hs2 : RelS ρ1 ⟨s1.env, setN s1.hp i (.lp ps1 asg1 body1 env1 n1 .busy pe1), s1.n⟩ a1 (w1.putObj (ρ1.b i) (.loop { r1 with state := .busy })) :=
      ⟨hr1.defers.step hr1.rel hbusy.1, hr1.size, hbusy.2, fun t => (hr1.vals t).step hbusy.1⟩
    have hlen2 : (setN s1.hp i (.lp ps1 asg1 body1 env1 n1 .busy pe1)).length = s1.hp.length := by rw [setN_eq]; simp
    have hrd2 : IsRound (some (ρ1.b i)) (w1.putObj (ρ1.b i) (.loop { r1 with state := .busy })) := fun l hl => by
      simp at hl; subst hl; exact ⟨_, World.putObj_heap_same (lt_of_heap k1)⟩
    refine wpIn_mono (hc2 (some (ρ1.b i)) ρ1 a1 _ (by rw [hlen2]; exact hst1'.len) hrd2 hs2) ?_
    rintro e a3 w3 ⟨x3, s3, ρ3, hq3, hx3, hr3, hst3⟩
    have hst3' : StpN σ.length ρ1 (setN s1.hp i (.lp ps1 asg1 body1 env1 n1 .busy pe1)) (w1.putObj (ρ1.b i) (.loop { r1 with state := .busy })) ρ3 s3.hp w3 := by
      exact hst3
    have hi1 : i < σ.length := lt_of_get hi
    have hall : Stp (ρ.floor 0) σ w ρ3 s3.hp w3 := (hst1'.trans' hbusy.1).trans hst3' (Nat.le_refl _)
    have hb3 : ρ3.b i = ρ1.b i := by rw [hall.rb i hi1]; exact hb1.symm
    have fin : ∀ {jump : Option Code} {t : Bool} {ps3 : List Nat} {asg3 b3 : Code} {env3 : List (Nat × AV)} {n3 : Nat} {pe3 : Option Code} {st : LoopState}, jump.isNone = t → (if jump.isNone then LoopState.ready else .done) = st → s3.hp[i]? = some (.lp ps3 asg3 b3 env3 n3 .busy pe3) →
        K (.bl t) (setN s3.hp i (.lp ps3 asg3 b3 env3 n3 st jump)) →
        ∃ v w', (Instr.endRound (ρ1.b i) jump).run P w3 = .ok v w' ∧ ∃ ρ' σ', Stp ρ σ w ρ' σ' w' ∧ Rel ρ' σ' w' ∧ ∃ r, K r σ' ∧ Val w' (Stay ρ' σ') ρ' σ'.length r v := by
      intro jump t ps3 asg3 b3 env3 n3 pe3 st ht1 ht2 hn3 hk
      subst ht1 ht2
      obtain ⟨r3, m1, m2, m3, m4, m5, m6, m7, m8⟩ := hr3.rel.ents i _ hn3
      have hend := rel_loop (st' := if jump.isNone then LoopState.ready else .done) (pe' := jump) hr3.rel hn3 m1
      refine ⟨_, _, run_endRound jump (hb3 ▸ m1), ρ3.floor ρ.m, _, ?_, ?_, _, hk, ⟨1, rfl⟩⟩
      · rw [← hb3]
        have := hall.trans' hend.1
        refine ⟨this.os, this.tape, this.output, this.size, fun b ob hb => ?_, fun b o hb ho => floor_own.1 (this.own b o hb (floor_own.1 ho)), this.len, this.rb, this.rt, this.rx, rfl, this.rg⟩
        obtain ⟨ob', f1, f2⟩ := this.frm b ob hb
        exact ⟨ob', f1, (okBlk.refl (Own ρ σ b) ob).trans f2 fun o ho => floor_own.1 ho⟩
      · rw [← hb3]; exact floor_rel hend.2
    cases x3 with
    | normal =>
      simp only [exOk] at hx3; subst hx3
      simp only [roundQ] at hq3
      split at hq3
      case h_2 => exact hq3.elim
      rename_i hn3
      rw [nth_eq] at hn3
      exact fin rfl rfl hn3 hq3
    | exit id =>
      simp only [exOk] at hx3; subst hx3
      simp only [roundQ] at hq3
      split at hq3
      case h_2 => exact hq3.elim
      rename_i hn3
      rw [nth_eq] at hn3
      exact fin rfl rfl hn3 hq3
    | ret =>
      simp only [exOk] at hx3; subst hx3
      simp only [roundQ] at hq3
      split at hq3
      case h_2 => exact hq3.elim
      rename_i hn3
      rw [nth_eq] at hn3
      exact fin rfl rfl hn3 hq3
    | pan x => exact hq3.elim
def overE : Option Ent → Option (Option Code)
  | some (.lp _ _ _ _ _ st pe) => match st with
    | .busy => none
    | _ => some pe
  | _ => none
theorem overE_some {e : Option Ent} {pe : Option Code} (h : overE e = some pe) : ∃ ps asg body env k st, e = some (.lp ps asg body env k st pe) ∧ st ≠ .busy := by
  unfold overE at h
  split at h
  · split at h
    · simp at h
    · rename_i hne
      simp at h; subst h
      exact ⟨_, _, _, _, _, _, rfl, hne⟩
  · simp at h
def rangeQ (Q : Ex → St → Prop) (s : St) (m : Nat) (_ : AV) (σ : List Ent) : Prop :=
  match overE (nth σ m) with
  | some none => Q .normal ⟨s.env, setN σ m .dead, s.n⟩
  | some (some (.exit id)) => Q (.exit id) ⟨s.env, setN σ m .dead, s.n⟩
  | some (some .ret) => Q .ret ⟨s.env, setN σ m .dead, s.n⟩
  | _ => False
theorem rel_shut (h : Rel ρ σ w) {i : Nat} {ps : List Nat} {asg body : Code} {env : List (Nat × AV)} {k : Nat} {st : LoopState} {pe : Option Code}
    (hi : σ[i]? = some (.lp ps asg body env k st pe)) {r r' : Loop} (hr : w.heap[ρ.b i]? = some (.loop r)) (hd : r'.defers = r.defers) :
    Stp ρ σ w ρ (setN σ i .dead) (w.putObj (ρ.b i) (.loop r')) ∧ Rel ρ (setN σ i .dead) (w.putObj (ρ.b i) (.loop r')) := by
  have hnew := World.putObj_heap_same (w := w) (o := .loop r') (lt_of_heap hr)
  have oth : ∀ {b : Nat}, b ≠ ρ.b i → (w.putObj (ρ.b i) (.loop r')).heap[b]? = w.heap[b]? := fun h => World.putObj_heap_other h
  have hlen : (setN σ i .dead).length = σ.length := by rw [setN_eq]; simp
  have hown : ∀ b o, Own ρ (setN σ i .dead) b o → Own ρ σ b o := by
    rintro b o ⟨j, f, hj, ho⟩
    rcases get_set hj with ⟨rfl, rfl⟩ | ⟨hne, hj⟩
    · exact ho.elim
    · exact ⟨j, f, hj, ho⟩
  have hst : Stp ρ σ w ρ (setN σ i .dead) (w.putObj (ρ.b i) (.loop r')) := by
    refine ⟨rfl, rfl, rfl, by rw [World.putObj_size]; exact Nat.le_refl _, fun b ob hob => ?_, fun b o _ ho => hown b o ho, by omega, fun _ _ => rfl, fun _ _ => .inl rfl, rfl, rfl, .set (fun _ _ h => by cases h)⟩
    by_cases hbb : b = ρ.b i
    · subst hbb
      rw [hr] at hob; simp at hob; subst hob
      exact ⟨_, hnew, _, rfl, hd, .inl ⟨i, _, hi, rfl⟩⟩
    · exact ⟨ob, by rw [oth hbb]; exact hob, okBlk.refl _ _⟩
  refine ⟨hst, fun j f hj => ?_, fun j l f g b o hj hl hf hg => ?_, fun b o ho => by rw [World.putObj_size]; exact h.xlt b o ho, fun b o ho => h.xown b o (hown b o ho), hst.gok h⟩
  · rcases get_set hj with ⟨rfl, rfl⟩ | ⟨hne, hj⟩
    · trivial
    · refine (h.ents j f hj).keep hst.keeps (lt_of_get hj) rfl (fun hk => ?_) (fun hp hlt c e' f' hc => ?_) (fun t os he => ⟨rfl, fun m hm => by subst he; exact oth (fam_apart (o := 0) h hj hi hne rfl m hm)⟩)
      · refine oth fun e => hne ?_
        refine h.disj j i f _ (ρ.b i) 0 hj hi ?_ rfl
        cases f <;> simp_all [Ent.blk, OwnE]
      · refine ⟨c, ?_, rfl, fun _ _ _ => rfl⟩
        rw [oth fun e => by rw [e, hr] at hc; simp at hc]; exact hc
  · rcases get_set hj with ⟨rfl, rfl⟩ | ⟨hne, hj⟩
    · exact hf.elim
    · rcases get_set hl with ⟨rfl, rfl⟩ | ⟨hne', hl⟩
      · exact hg.elim
      · exact h.disj j l f g b o hj hl hf hg
theorem range_at {J : Jd} (hJ : J = std P n₀) {g : Operand} {ps : Array Tmp} {asg body : Code} {Q : Ex → St → Prop} {s : St} {f : FuncId} {caps : List AV} (hg : s.ev g = .func f caps)
    (h : CallA P f (.yld (lenN s.hp) :: caps) (snoc s.hp (.lp ps.toList asg body s.env s.n .ready none)) (rangeQ Q s (lenN s.hp)) (fun _ _ => False)) : J.code (.rangeFunc g ps asg body) Q s := by
  subst hJ
  intro rd ρ a w hn₀ hrd hs
  have hgv := ev_val hs g
  rw [hg] at hgv
  obtain ⟨cs, hcv, hcs⟩ := val_func hgv
  rw [lenN_eq, snoc_eq] at h
  obtain ⟨⟨fn, c, hfn, hbody, hname⟩, hcall⟩ := h
  have inv : ∀ (args : Array Value) (w : World), (callFunc f args).run P w = .ok (.enter f args) w := by
    intro args w
    simp only [callFunc, Sem.run_bind, run_program, Result.andThen_ok, hfn, hname, hbody, Option.isNone_some, Bool.false_eq_true, if_false, Sem.run_pure]
  refine wpIn_rangeFunc fun fn' _ => ?_
  have key : ∀ (l : Nat) (mark : List Deferred) (w1 : World) (rec : Loop), (Instr.enterLoop fn' a.tmps ps asg body rd).run P w = .ok (l, mark) w1 → w1.heap[l]? = some (.loop rec) → rec.params = ps → rec.assign = asg → rec.body = body → rec.state = .ready → rec.pending = none → rec.tmps = a.tmps →
      w1.os = w.os → w1.tape = w.tape → w1.output = w.output → (∀ (k : Nat) ob, w.heap[k]? = some ob → w1.heap[k]? = some ob) → w.heap.size ≤ l → w.heap.size ≤ w1.heap.size → Marks ρ.m w1 (mark ++ a.defers) →
      ∃ (l : Nat) (mark : List Deferred) (w₁ : World) (d : Deferred) (w₁' : World) (f : FuncId) (args : Array Value) (w₂ : World),
      (Instr.enterLoop fn' a.tmps ps asg body (fen rd).round).run P w = .ok (l, mark) w₁ ∧ (resolve a.eval (rangeCall g l) 0).run P w₁ = .ok d w₁' ∧ (∀ f', Target.leads P w₁' d.target d.args = some f' → (fen rd).fn f') ∧
      (invoke d.target d.args).run P w₁' = .ok (.enter f args) w₂ ∧ ((fen rd).depth.isSome = true → 1 ≤ 0) ∧
      CallsIn (fen rd) (0 - 1) P f args w₂ (rangePost (fen rd) 0 P l (Post n₀ ρ s.hp w Q) { a with defers := mark ++ a.defers }) := by
    intro l mark w1 rec he hl hp1 hp2 hp3 hp4 hp5 hp6 hos htape hout hh hlo hsz hmk
    obtain ⟨ρ1, hρ1⟩ : ∃ ρ1 : Ro, ρ1 = ρ.add s.hp.length l := ⟨_, rfl⟩
    have hpush := hs.rel.push (ρ' := ρ1) (w' := w1) (e := .lp ps.toList asg body s.env s.n .ready none) (fun i hi => by rw [hρ1]; simp [Ro.add]; omega) (fun _ _ => by rw [hρ1]; rfl) (by rw [hρ1]; rfl) (by rw [hρ1]; rfl) hos htape hout hh hsz
      (fun b o ho => by rw [hρ1] at ho; simp only [OwnE, Ro.add, if_true] at ho; omega)
      (fun hst => ⟨rec, by rw [hρ1]; simp only [Ro.add, if_true]; exact hl, by rw [hp1], hp2, hp3, hp4, hp5, by rw [hp6]; exact hs.size, fun t => by rw [hp6]; exact (hs.vals t).step hst⟩) (by rw [hρ1]; rfl)
    have hargs : All2 (Val w1 (Stay ρ1 (s.hp ++ [.lp ps.toList asg body s.env s.n .ready none])) ρ1 (s.hp ++ [Ent.lp ps.toList asg body s.env s.n .ready none]).length) (.yld s.hp.length :: caps) (.func (.yield l) #[] #[] :: cs) := by
      refine ⟨⟨1, ?_⟩, hcs.imp fun _ _ h => h.step hpush.1⟩
      refine ⟨by simp, ?_⟩
      rw [hρ1]; simp [Ro.add]
    have hc := hcall ρ1 w1 (.func (.yield l) #[] #[] :: cs) hpush.2 hargs
    refine ⟨l, mark, w1, { target := .fn (.func f) cs.toArray, args := #[.func (.yield l) #[] #[]] }, w1, f, (.func (.yield l) #[] #[] :: cs).toArray, w1, he, ?_, fun _ _ => trivial, ?_, fun hn => by simp [Fence.wide] at hn, ?_⟩
    · simp only [resolve, hcv]
      simp [Act.eval, Deferred.ofValue]
    · simp [invoke, inv]
    · refine (callsIn_fen hc).mono ?_
      rintro en w3 ⟨ρ3, σ3, hst3, hrel3, hen⟩
      cases en with
      | panicked ch => obtain ⟨_, _, _, hf, _⟩ := hen; exact hf.elim
      | outgrown => exact hen.elim
      | returned v =>
        obtain ⟨r, hq, _⟩ := hen
        have hlb : ρ3.b s.hp.length = l := by rw [hst3.rb _ (by simp), hρ1]; simp [Ro.add]
        unfold rangeQ at hq
        rw [nth_eq] at hq
        have out : ∀ {ps' : List Nat} {asg' body' : Code} {env' : List (Nat × AV)} {k' : Nat} {st' : LoopState} {pe' : Option Code} {r3 : Loop}, σ3[s.hp.length]? = some (.lp ps' asg' body' env' k' st' pe') → w3.heap[ρ3.b s.hp.length]? = some (.loop r3) →
            RelS ρ3 ⟨s.env, setN σ3 s.hp.length .dead, s.n⟩ { a with defers := mark ++ a.defers } (w3.putObj l (.loop { r3 with state := .exhausted })) ∧
            StpN n₀ ρ s.hp w ρ3 (setN σ3 s.hp.length .dead) (w3.putObj l (.loop { r3 with state := .exhausted })) ∧ IsRound rd (w3.putObj l (.loop { r3 with state := .exhausted })) := by
          intro ps' asg' body' env' k' st' pe' r3 hn3 hr3
          have hsh := rel_shut (r' := { r3 with state := .exhausted }) hrel3 hn3 hr3 rfl
          rw [hlb] at hsh
          have hall := (hpush.1.trans hst3 (by simp)).trans' hsh.1
          refine ⟨⟨?_, hs.size, hsh.2, fun t => (hs.vals t).step hall⟩, hall.le hn₀, hrd.step hall⟩
          have hm : ρ3.m = ρ.m := hall.rm
          show Marks ρ3.m _ _
          rw [hm]
          exact (hmk.step hpush.2 hst3).step hrel3 hsh.1
        have hend : ∀ {ps' : List Nat} {asg' body' : Code} {env' : List (Nat × AV)} {k' : Nat} {st' : LoopState} {pe' : Option Code}, σ3[s.hp.length]? = some (.lp ps' asg' body' env' k' st' pe') → st' ≠ .busy →
            ∃ r3 : Loop, w3.heap[ρ3.b s.hp.length]? = some (.loop r3) ∧ (Instr.endLoop l).run P w3 = .ok pe' (w3.putObj l (.loop { r3 with state := .exhausted })) := by
          intro ps' asg' body' env' k' st' pe' hn3 hbz
          obtain ⟨r3, m1, m2, m3, m4, m5, m6, m7, m8⟩ := hrel3.ents _ _ hn3
          refine ⟨r3, m1, ?_⟩
          have := run_endLoop (P := P) (hlb ▸ m1) (by rw [m5]; exact hbz)
          rw [← m6]; exact this
        split at hq
        · rename_i he3
          obtain ⟨_, _, _, _, _, _, hn3, hnb⟩ := overE_some he3
          obtain ⟨r3, m1, m2⟩ := hend hn3 hnb
          obtain ⟨o1, o2, o3⟩ := out hn3 m1
          exact ⟨_, _, m2, .normal, _, ρ3, hq, rfl, o1, o2⟩
        · rename_i he3
          obtain ⟨_, _, _, _, _, _, hn3, hnb⟩ := overE_some he3
          obtain ⟨r3, m1, m2⟩ := hend hn3 hnb
          obtain ⟨o1, o2, o3⟩ := out hn3 m1
          exact ⟨_, _, m2, wpIn_exit ⟨.exit _, _, ρ3, hq, rfl, o1, o2⟩⟩
        · rename_i he3
          obtain ⟨_, _, _, _, _, _, hn3, hnb⟩ := overE_some he3
          obtain ⟨r3, m1, m2⟩ := hend hn3 hnb
          obtain ⟨o1, o2, o3⟩ := out hn3 m1
          exact ⟨_, _, m2, wpIn_ret ⟨.ret, _, ρ3, hq, rfl, o1, o2⟩⟩
        · exact hq.elim
  cases rd with
  | none =>
    refine key _ _ _ _ (run_enterLoop_outer fn' a.tmps ps asg body) (by rw [show w.heap.size + 1 = (w.alloc (.deferred (some []))).heap.size by simp]; exact World.alloc_heap_new _ _) rfl rfl rfl rfl rfl rfl rfl rfl rfl
      (fun k ob hk => heap_alloc_old (heap_alloc_old hk)) (by omega) (by simp; omega) ?_
    have hfl : ρ.m ≤ w.heap.size := by
      have : ∀ {ds : List Deferred}, Marks ρ.m w ds → ρ.m ≤ w.heap.size := by
        intro ds
        induction ds with
        | nil => exact id
        | cons d ds ih => exact fun h => ih h.2
      exact this hs.defers
    refine ⟨⟨w.heap.size, rfl, hfl, heap_alloc_old (World.alloc_heap_new _ _), fun d' hd he => ?_⟩, ?_⟩
    · subst he
      have : ∀ {ds : List Deferred}, Marks ρ.m w ds → ∀ D, ({ target := .collected D, args := #[] } : Deferred) ∈ ds → D < w.heap.size := by
        intro ds
        induction ds with
        | nil => intro _ D h; simp at h
        | cons d ds ih =>
          rintro ⟨⟨D', h1, h2, h3, h4⟩, h5⟩ D hD
          rcases List.mem_cons.1 hD with e | e
          · rw [h1] at e; simp at e; subst e; exact lt_of_heap h3
          · exact ih h5 D e
      have := this hs.defers _ hd
      omega
    · have st1 : ∀ {ds : List Deferred}, Marks ρ.m w ds → Marks ρ.m ((w.alloc (.deferred (some []))).alloc (.loop { state := .ready, pending := none, fn := fn', tmps := a.tmps, params := ps, assign := asg, body, defers := w.heap.size })) ds := by
        intro ds
        induction ds with
        | nil => intro h; exact Nat.le_trans h (by simp; omega)
        | cons d ds ih => rintro ⟨⟨D', h1, h2, h3, h4⟩, h5⟩; exact ⟨⟨D', h1, h2, heap_alloc_old (heap_alloc_old h3), h4⟩, ih h5⟩
      exact st1 hs.defers
  | some l₀ =>
    obtain ⟨q, hq⟩ := hrd l₀ rfl
    refine key _ _ _ _ (run_enterLoop_inner hq fn' a.tmps ps asg body) (World.alloc_heap_new _ _) rfl rfl rfl rfl rfl rfl rfl rfl rfl (fun k ob hk => heap_alloc_old hk) (Nat.le_refl _) (by simp) ?_
    have st1 : ∀ {ds : List Deferred}, Marks ρ.m w ds → Marks ρ.m (w.alloc (.loop { state := .ready, pending := none, fn := fn', tmps := a.tmps, params := ps, assign := asg, body, defers := q.defers })) ds := by
      intro ds
      induction ds with
      | nil => intro h; exact Nat.le_trans h (by simp)
      | cons d ds ih => rintro ⟨⟨D', h1, h2, h3, h4⟩, h5⟩; exact ⟨⟨D', h1, h2, heap_alloc_old h3, h4⟩, ih h5⟩
    exact st1 hs.defers
end
end Go.Pt
namespace Go.Pt
open Go Go.Maps
section
variable {P : Program} {n₀ : Nat} {tab : Nat → Ty} {w : World} {ρ : Ro} {s : St} {a : Act} {σ : List Ent}
theorem call_of_code (ht : TabOk P tab) {f : FuncId} {fn : Func} {c : Code} {args : List AV} {σ : List Ent} {K E : AV → List Ent → Prop} {Q : Ex → St → Prop} (hQ : ∀ x s0, Q x s0 → ∃ s, (s = s0 ∨ ((x = .ret ∨ x = .normal) ∧ Turn n₀ s0 s)) ∧ ∃ keep, (rangeN n₀ ++ keep).Nodup ∧ retQ tab fn.results.toList (rangeN n₀ ++ keep) K E x s)
    (hf : P.funcs[f]? = some fn) (hb : fn.body = some c) (hname : (fn.name == "runtime.NumGoroutine") = false) (hn : σ.length = n₀) (hargs : args.length ≤ fn.ntmps)
    (h : CodeA P n₀ c Q ⟨argEnv 0 args, σ, fn.ntmps⟩) : CallA P f args σ K E := by
  refine ⟨⟨fn, c, hf, hb, hname⟩, fun ρ w vs hrel hvs => ?_⟩
  have hl := hvs.length
  have hvs1 : All2 (Val w (Stay (ρ.floor w.heap.size) σ) (ρ.floor w.heap.size) σ.length) args vs := hvs.imp fun _ _ h => h.keep floor_keeps
  refine (callsIn_wide (n := 0)).1 (callsIn_of_wp_marks hf hb trivial ?_ rfl)
  have hs : RelS (ρ.floor w.heap.size) ⟨argEnv 0 args, σ, fn.ntmps⟩ ⟨vs.toArray ++ Array.replicate (fn.ntmps - vs.toArray.size) undef, []⟩ w := by
    refine ⟨Nat.le_refl _, by simp; omega, floor_rel hrel, fun t => ?_⟩
    rw [argEnv_look, if_pos (Nat.zero_le _), Nat.sub_zero]
    cases hx : args[t]? with
    | none => exact Val.junk
    | some x =>
      obtain ⟨v, hv, hxv⟩ := hvs1.get hx
      have hlt := lt_of_get hv
      have : (vs.toArray ++ Array.replicate (fn.ntmps - vs.toArray.size) undef).getD t undef = v := by
        rw [Array.getD_eq_getD_getElem?, Array.getElem?_append_left (by simpa using hlt)]
        simp [hv]
      simp only [this]
      exact hxv
  refine wpIn_mono (h none (ρ.floor w.heap.size) _ w (by rw [hn]; exact Nat.le_refl _) (fun l hl => by simp at hl) hs) ?_
  rintro e a' w1 ⟨x, s0, ρ0, hq, hx0, hr0, hst0⟩
  obtain ⟨s', hts, keep, hkeep, hq⟩ := hQ _ _ hq
  obtain ⟨ρ', hx, hr, hst⟩ : ∃ ρ2, exOk w1 ρ2 s' x e ∧ RelS ρ2 s' a' w1 ∧ StpN n₀ (ρ.floor w.heap.size) σ w ρ2 s'.hp w1 := by
    rcases hts with rfl | ⟨hx', hT⟩
    · exact ⟨ρ0, hx0, hr0, hst0⟩
    · obtain ⟨ρ2, h1, h2⟩ := hT ρ0 a' w1 hr0
      exact ⟨ρ2, by rcases hx' with rfl | rfl <;> exact hx0, h1, hst0.trans h2 (Nat.le_refl _)⟩
  have hkl : σ.length ≤ (rangeN n₀ ++ keep).length := by rw [rangeN_eq]; simp; omega
  have hid : ∀ i, i < σ.length → (rangeN n₀ ++ keep)[i]? = some i := fun i hi => rangeN_get (by omega) _
  have hst1 : StpN σ.length (ρ.floor w.heap.size) σ w ρ' s'.hp w1 := by rw [hn]; exact hst
  have hmk : Marks w.heap.size w1 a'.defers := by have := hr.defers; rw [hst.rm] at this; exact this
  have fin : ∀ w', Rel ρ' s'.hp w' → StpN σ.length (ρ.floor w.heap.size) σ w ρ' s'.hp w' →
      Stp ρ σ w (ρ'.pack (rangeN n₀ ++ keep) ρ'.x ρ.m) (pack (rangeN n₀ ++ keep) s'.hp) w' ∧ Rel (ρ'.pack (rangeN n₀ ++ keep) ρ'.x ρ.m) (pack (rangeN n₀ ++ keep) s'.hp) w' ∧
      ∀ {v : AV} {u : Value}, Val w' (Stay ρ' s'.hp) ρ' s'.hp.length v u → Val w' (Stay (ρ'.pack (rangeN n₀ ++ keep) ρ'.x ρ.m) (pack (rangeN n₀ ++ keep) s'.hp)) (ρ'.pack (rangeN n₀ ++ keep) ρ'.x ρ.m) (pack (rangeN n₀ ++ keep) s'.hp).length (ren (idx (rangeN n₀ ++ keep)) 9 v) u := by
    intro w' hr' hst'
    obtain ⟨hp1, hp2⟩ := rel_pack hr' hkeep (x := ρ'.x) ρ.m (fun b o h => .inl h)
    have hp3 := pack_step hst' hkl hid
    refine ⟨⟨hp3.os, hp3.tape, hp3.output, hp3.size, fun b ob hb => ?_, fun b o hb ho => floor_own.1 (hp3.own b o hb ?_), hp3.len, hp3.rb, hp3.rt, hp3.rx, rfl, hp3.rg⟩, hp1, ?_⟩
    · obtain ⟨ob', k1, k2⟩ := hp3.frm b ob hb
      exact ⟨ob', k1, (okBlk.refl (Own ρ σ b) ob).trans k2 fun o ho => floor_own.1 ho⟩
    · obtain ⟨i, e, hi, ho⟩ := ho; exact ⟨i, e, hi, by cases e <;> exact ho⟩
    · rintro v u ⟨d, hv⟩
      rw [pack_len]
      exact ren_val pack_ren (fun b o u hb _ => hp2 b o hb) 9 hv
  have done : ∀ {Kr : Prop}, (match resOf tab s' fn.results.toList with | some r => K (ren (idx (rangeN n₀ ++ keep)) 9 r) (pack (rangeN n₀ ++ keep) s'.hp) | none => False) →
      LeavesInM Fence.wide 0 P fn a'.tmps (fun e w' => ∃ ρ'' σ'', Stp ρ σ w ρ'' σ'' w' ∧ Rel ρ'' σ'' w' ∧ match e with
        | .returned v => ∃ r, K r σ'' ∧ Val w' (Stay ρ'' σ'') ρ'' σ''.length r v
        | .panicked ch => ∃ r v, ch = [{ v, recovered := false }] ∧ E r σ'' ∧ Val w' (Stay ρ'' σ'') ρ'' σ''.length r v
        | .outgrown => False) a'.defers .returning w1 := by
    intro _ hq
    split at hq
    case h_2 => exact hq.elim
    rename_i r hres
    refine leave_marks (ρ := ρ') (s := s') (by simp) a'.defers w1 hmk hr.rel hr.vals hst1 (fun x v w' hx _ _ hk => hx.keep hk) fun w' hr' hv' hst' hk' => ?_
    obtain ⟨u, h1, h2⟩ := resOf_sound (a := ⟨a'.tmps, []⟩) ht ⟨by show ρ'.m ≤ _; rw [hst'.rm]; exact hst'.size, hr.size, hr', hv'⟩ hres
    obtain ⟨f1, f2, f3⟩ := fin w' hr' hst'
    exact ⟨u, h1, _, _, f1, f2, _, hq, f3 h2⟩
  cases x with
  | normal => simp only [exOk] at hx; subst hx; exact done (Kr := True) (retQ_ret (.inr hq))
  | ret => simp only [exOk] at hx; subst hx; exact done (Kr := True) (retQ_ret (.inl hq))
  | exit i => exact hq.elim
  | pan x =>
    obtain ⟨v, rfl, hv⟩ := hx
    refine leave_marks (ρ := ρ') (s := s') (by simp) a'.defers w1 hmk hr.rel hr.vals hst1 (fun x v w' hx _ _ hk => hx.keep hk) fun w' hr' hv' hst' hk' => ?_
    obtain ⟨f1, f2, f3⟩ := fin w' hr' hst'
    exact ⟨_, _, f1, f2, _, v, rfl, hq, f3 (hv.keep hk')⟩
theorem wp_loop {c : Code} {rd : Option Nat} {Qf : Exit → Act → World → Prop} {β : Type} (R : β → Act → World → Prop) (μ : β → Nat)
    (round : ∀ b a w, R b a w → c.wpIn (fen rd) 0 P (fun e a' w' => (e = .normal ∧ ∃ b', μ b' < μ b ∧ R b' a' w') ∨ (e ≠ .normal ∧ (∀ l, e ≠ .goto l) ∧ Qf e a' w')) a w) (b : β) (a : Act) (w : World) (h : R b a w) : (Code.loop c).wpIn (fen rd) 0 P Qf a w := by
  have key : ∀ n (bb : β) (a : Act) (w : World), μ bb = n → R bb a w → ∀ (b : Frame) (k : List Item) (cs : List Frame), b.roundOf = rd →
      ∃ e a' w', Qf e a' w' ∧ ArrivesIn (Machine.fenced P (fen rd)) P (lone (b.atR a (.code c :: .inLoop c :: k)) cs w) b k cs e a' w' := by
    intro n
    induction n using Nat.strongRecOn with
    | _ n ih =>
      intro bb a w hμ hR b k cs hro
      have room : ∀ m, (fen rd).room m := fun m d hd => by simp [Fence.wide] at hd
      obtain ⟨e, a₁, w₁, hq, harr⟩ := round bb a w hR b (.inLoop c :: k) cs hro trivial (room _)
      rcases hq with ⟨rfl, b', hlt, hR'⟩ | ⟨hne, hg, hq⟩
      · obtain ⟨e₂, a₂, w₂, hq₂, harr₂⟩ := ih (μ b') (hμ ▸ hlt) b' a₁ w₁ rfl hR' b k cs hro
        exact ⟨e₂, a₂, w₂, hq₂, .of_steps (StepsIn.trans harr (.one (fenced_calm (n := 0) trivial (room _) rfl) stepR_inLoop)) harr₂⟩
      · cases e with
        | normal => exact absurd rfl hne
        | goto l => exact absurd rfl (hg l)
        | exit i => exact ⟨_, a₁, w₁, hq, .pass (x := .inLoop c) rfl (fun _ _ => .inl (by simp)) harr⟩
        | ret => exact ⟨_, a₁, w₁, hq, .pass (x := .inLoop c) rfl (fun _ _ => .inl (by simp)) harr⟩
        | panic v => exact ⟨_, a₁, w₁, hq, .pass (x := .inLoop c) rfl (fun _ _ => .inl (by simp)) harr⟩
        | outgrown => exact ⟨_, a₁, w₁, hq, .pass (x := .inLoop c) rfl (fun _ _ => .inl (by simp)) harr⟩
  intro b' k cs hro hb hroom
  obtain ⟨e, a', w', hq, harr⟩ := key _ b a w rfl h b' k cs hro
  exact ⟨e, a', w', hq, .of_steps (.one (fenced_calm (n := 0) hb hroom rfl) stepR_loop) harr⟩
def kEnv (n l : Nat) : List (Nat × AV) := [(5, .ptr n 0), (0, .yld l)]
def kR0 (mt : TypeId) : Array Oper := #[{ dst := some 4, op := .load mt (.tmp 1), type := mt, pos := "iter.go:27", after := #[], guard := none },
  { dst := some 5, op := .range mt (.tmp 4), type := 0, pos := "iter.go:27", after := #[{ on := 0, ground := .data }], guard := none }]
def kR1 (bt : TypeId) : Array Oper := #[{ dst := some 6, op := .next (.tmp 5) false, type := 0, pos := "iter.go:27", after := #[], guard := none },
  { dst := some 7, op := .extract (.tmp 6) 0, type := bt, pos := "iter.go:27", after := #[{ on := 0, ground := .data }], guard := none }]
def kR2 (kt : TypeId) (ag : Bool := true) : Array Oper := match ag with
  | true => #[{ dst := some 8, op := .entry (.tmp 5), type := 0, pos := "iter.go:27", after := #[], guard := none },
    { dst := some 9, op := .extract (.tmp 8) 0, type := kt, pos := "iter.go:27", after := #[{ on := 0, ground := .data }], guard := none },
    { dst := some 3, op := .alloc kt, type := 0, pos := "iter.go:27", after := #[], guard := none },
    { dst := none, op := .store kt (.tmp 3) (.tmp 9), type := 0, pos := "iter.go:27", after := #[{ on := 2, ground := .data }, { on := 1, ground := .data }, { on := 0, ground := .phase }, { on := 1, ground := .phase }, { on := 2, ground := .phase }], guard := none }]
  | false => #[{ dst := some 8, op := .entry (.tmp 5), type := 0, pos := "iter.go:27", after := #[], guard := none },
    { dst := some 9, op := .extract (.tmp 8) 0, type := kt, pos := "iter.go:27", after := #[{ on := 0, ground := .data }], guard := none },
    { dst := some 3, op := .assign (.tmp 9), type := kt, pos := "iter.go:27", after := #[{ on := 1, ground := .data }, { on := 0, ground := .phase }, { on := 1, ground := .phase }], guard := none }]
def kR3 (kt ft bt : TypeId) (ag : Bool := true) : Array Oper := #[{ dst := some 10, op := .move (.tmp 0), type := ft, pos := "iter.go:28", after := #[], guard := none },
  { dst := some 11, op := match ag with | true => .load kt (.tmp 3) | false => .move (.tmp 3), type := kt, pos := "iter.go:28", after := #[], guard := none },
  { dst := some 12, op := .call { callee := .value (.tmp 10), args := #[.tmp 11], argTypes := #[kt] }, type := bt, pos := "iter.go:28", after := #[{ on := 0, ground := .data }, { on := 1, ground := .data }], guard := none },
  { dst := some 13, op := .unOp .not bt (.tmp 12), type := bt, pos := "iter.go:28", after := #[{ on := 2, ground := .data }], guard := none }]
def kRest (kt ft bt : TypeId) (ag : Bool := true) : Code := (Code.region 3 (kR3 kt ft bt ag) false).seq (.cond (.tmp 13) .ret .skip)
def kBody (kt ft bt : TypeId) (ag : Bool := true) : Code := (Code.region 1 (kR1 bt) false).seq ((Code.cond (.tmp 7) .skip (.exit 0)).seq (.block 1 ((Code.region 2 (kR2 kt ag) false).seq (kRest kt ft bt ag))))
def keysCode (mt kt ft bt : TypeId) (ag : Bool := true) : Code := (Code.region 0 (kR0 mt) false).seq (.block 0 (.loop (kBody kt ft bt ag)))
theorem RelS.drop {t : Nat} {v : AV} {env : List (Nat × AV)} {hp : List Ent} {n : Nat} (h : RelS ρ ⟨(t, v) :: env, hp, n⟩ a w) (ht : look env t = .junk) : RelS ρ ⟨env, hp, n⟩ a w :=
  ⟨h.defers, h.size, h.rel, fun t' => by
    by_cases e : t' = t
    · subst e; rw [ht]; exact Val.junk
    · have := h.vals t'
      rw [show look ((t, v) :: env) t' = look env t' from by
        have : beN t t' = false := by
          cases hb : beN t t' with
          | false => rfl
          | true => exact absurd (beN_t hb).symm e
        simp [look, this]] at this
      exact this⟩
theorem own_size (h : Rel ρ σ w) {b o : Nat} (ho : Own ρ σ b o) : b < w.heap.size := by
  obtain ⟨i, e, hi, he⟩ := ho
  have hok := h.ents i e hi
  cases e with
  | var cs => obtain ⟨_, _, _, h2⟩ := hok; exact (he : ρ.b i = b) ▸ lt_of_heap h2
  | mp es => obtain ⟨_, _, h2, _⟩ := hok; exact (he : ρ.b i = b) ▸ lt_of_heap h2
  | lp ps asg body env k st pe => obtain ⟨_, h2, _⟩ := hok; exact (he : ρ.b i = b) ▸ lt_of_heap h2
  | tip pos => obtain ⟨rfl, h2, h3⟩ := he; obtain ⟨_, _, _, h4, _⟩ := hok.2.2 (by omega); exact lt_of_heap h4
  | vec s xs => obtain ⟨rfl, h2, h3⟩ := he; obtain ⟨_, _, _, h4, _⟩ := hok.2.2.1 (by omega); exact lt_of_heap h4
  | fam t os => obtain ⟨j, hj, rfl⟩ := he; obtain ⟨vs, e', h4⟩ := fam_cells h hi j hj; exact lt_of_heap h4
  | dead => exact he.elim
theorem rel_iter (h : Rel ρ σ w) {r : Nat} {o : Obj} {w' : World} (hr : w.heap[r]? = some o) (hc : ∀ c e f, o ≠ .cells c e f) (hno : ∀ x, ¬ Own ρ σ r x)
    (hsz : w'.heap.size = w.heap.size) (hh : ∀ k, k ≠ r → w'.heap[k]? = w.heap[k]?) : Rel ρ σ w' ∧ Keeps w w' (Stay ρ σ) (Stay ρ σ) ρ ρ σ.length σ.length := by
  have hk : Keeps w w' (Stay ρ σ) (Stay ρ σ) ρ ρ σ.length σ.length := by
    refine ⟨fun b x u hs hu => ⟨hs, ?_⟩, Nat.le_refl _, fun _ _ => rfl, fun _ _ => .inl rfl, .refl _⟩
    obtain ⟨c, e, f, hb, hu'⟩ := cellAt_of hu
    have hne : b ≠ r := fun e1 => by rw [e1, hr] at hb; exact hc _ _ _ (Option.some.inj hb)
    have := cellAt_cells ((hh b hne).trans hb) (o := x)
    rw [this]; exact hu'
  refine ⟨⟨fun j f hj => ?_, h.disj, fun b x hx => by rw [hsz]; exact h.xlt b x hx, h.xown, fun t j hj => by
    obtain ⟨c, e, h4⟩ := h.gok t j hj
    exact ⟨c, e, by rw [hh _ fun e' => by rw [e', hr] at h4; exact hc _ _ _ (Option.some.inj h4)]; exact h4⟩⟩, hk⟩
  refine (h.ents j f hj).keep hk (lt_of_get hj) rfl (fun hb => hh _ fun e => ?_) (fun hp hlt c e' f' hcc => ⟨c, ?_, rfl, fun _ _ _ => rfl⟩) (fun t os he => ⟨rfl, fun i hi => by
    subst he
    obtain ⟨vs, e', h4⟩ := fam_cells h hj i hi
    exact hh _ fun e1 => by rw [e1, hr] at h4; exact hc _ _ _ (Option.some.inj h4)⟩)
  · refine hno 0 ⟨j, f, hj, ?_⟩
    cases f <;> simp_all [Ent.blk, OwnE]
  · rw [hh _ fun e => by rw [e, hr] at hcc; exact hc _ _ _ (Option.some.inj hcc)]; exact hcc
theorem marks_iter {r : Nat} {o : Obj} {w' : World} (hr : w.heap[r]? = some o) (hc : ∀ q, o ≠ .deferred q) (hsz : w'.heap.size = w.heap.size) (hh : ∀ k, k ≠ r → w'.heap[k]? = w.heap[k]?) {m : Nat} :
    ∀ {ds : List Deferred}, Marks m w ds → Marks m w' ds
  | [], h => by show m ≤ _; rw [hsz]; exact h
  | _ :: ds, ⟨⟨D, h1, h2, h3, h4⟩, h5⟩ => ⟨⟨D, h1, h2, by rw [hh D fun e => by rw [e, hr] at h3; exact hc _ (Option.some.inj h3)]; exact h3, h4⟩, marks_iter hr hc hsz hh h5⟩
theorem all2_zip {α β : Type} {R : α → β → Prop} : ∀ {l : List α} {r : List β}, All2 R l r → ∀ z ∈ l.zip r, R z.1 z.2
  | [], [], _, z, hz => by simp at hz
  | x :: l, y :: r, h, z, hz => by
    rw [List.zip_cons_cons, List.mem_cons] at hz
    rcases hz with rfl | hz
    · exact h.1
    · exact all2_zip h.2 z hz
def KeysLeft (es : List (AV × AV)) (ms : List MapEntry) (seen : Array Nat) (ks : List AV) : Prop :=
  (ks ++ ((es.zip ms).filter fun z => !seen.contains z.2.born).map (·.1.1)).Perm (es.map Prod.fst)
theorem left_start {es : List (AV × AV)} {ms : List MapEntry} (hl : es.length = ms.length) : KeysLeft es ms #[] [] := by
  unfold KeysLeft
  have : ((es.zip ms).filter fun z => !(#[] : Array Nat).contains z.2.born) = es.zip ms := by simp
  rw [this, List.nil_append]
  have e2 : (es.zip ms).map (fun z => z.1.1) = ((es.zip ms).map Prod.fst).map Prod.fst := by rw [List.map_map]; rfl
  rw [e2, List.map_fst_zip (by omega)]
theorem left_end {es : List (AV × AV)} {ms : List MapEntry} {seen : Array Nat} {ks : List AV} (h : KeysLeft es ms seen ks) (h0 : (leftOf ms.toArray seen).size = 0) : ks.Perm (es.map Prod.fst) := by
  unfold KeysLeft at h
  have : ((es.zip ms).filter fun z => !seen.contains z.2.born) = [] := by
    rw [List.filter_eq_nil_iff]
    intro z hz
    have hm : z.2 ∈ ms := (List.of_mem_zip hz).2
    have := List.eq_nil_of_length_eq_zero (l := (leftOf ms.toArray seen).toList) (by simpa using h0)
    simp only [leftOf, Array.toList_filter, List.filter_eq_nil_iff] at this
    exact this _ hm
  rw [this] at h
  simpa using h
theorem perm_out {α : Type} (f : α → Nat) {x : α} : ∀ {l : List α}, (l.map f).Nodup → x ∈ l → l.Perm (x :: l.filter fun z => f z != f x) := by
  intro l
  induction l with
  | nil => intro _ h; simp at h
  | cons y l ih =>
    intro hn hx
    rw [List.map_cons, List.nodup_cons] at hn
    by_cases e : f y = f x
    · have hxy : x = y := by
        rcases List.mem_cons.1 hx with h | h
        · exact h
        · exact absurd (e ▸ List.mem_map.2 ⟨x, h, rfl⟩) hn.1
      subst hxy
      have : (x :: l).filter (fun z => f z != f x) = l := by
        rw [List.filter_cons, if_neg (by simp), List.filter_eq_self]
        intro z hz
        have : f z ≠ f x := fun e => hn.1 (e ▸ List.mem_map.2 ⟨z, hz, rfl⟩)
        simpa using this
      rw [this]
    · have hxl : x ∈ l := by
        rcases List.mem_cons.1 hx with h | h
        · subst h; exact absurd rfl e
        · exact h
      rw [List.filter_cons, if_pos (by simpa using e)]
      exact ((ih hn.2 hxl).cons y).trans (List.Perm.swap _ _ _)
theorem left_step {es : List (AV × AV)} {ms : List MapEntry} {seen : Array Nat} {ks : List AV} (h : KeysLeft es ms seen ks) (hl : es.length = ms.length) (hnd : (ms.map (·.born)).Nodup) {e : MapEntry} (he : e ∈ (leftOf ms.toArray seen).toList) :
    ∃ z, z ∈ es.zip ms ∧ z.2 = e ∧ KeysLeft es ms (seen.push e.born) (ks ++ [z.1.1]) ∧ ∃ rest, (ks ++ z.1.1 :: rest).Perm (es.map Prod.fst) := by
  simp only [leftOf, Array.toList_filter, List.mem_filter] at he
  obtain ⟨i, hi, hie⟩ := List.getElem_of_mem he.1
  have hie' : ms[i]? = some e := by rw [List.getElem?_eq_getElem hi, hie]
  have hi2 : i < es.length := by rw [hl]; exact hi
  have hz : (es[i], e) ∈ es.zip ms := by
    refine List.mem_of_getElem? (i := i) ?_
    rw [List.getElem?_zip_eq_some]
    exact ⟨List.getElem?_eq_getElem hi2, hie'⟩
  obtain ⟨z, hz', rfl⟩ : ∃ z : (AV × AV) × MapEntry, z ∈ es.zip ms ∧ z.2 = e := ⟨_, hz, rfl⟩
  have hb : ((es.zip ms).map fun z => z.2.born).Nodup := by
    have : (es.zip ms).map (fun z => z.2.born) = ((es.zip ms).map Prod.snd).map (·.born) := by rw [List.map_map]; rfl
    rw [this, List.map_snd_zip (by omega)]
    exact hnd
  obtain ⟨R, hR⟩ : ∃ R, R = (es.zip ms).filter fun z => !seen.contains z.2.born := ⟨_, rfl⟩
  have hzR : z ∈ R := by rw [hR, List.mem_filter]; exact ⟨hz', he.2⟩
  have hbR : (R.map fun z => z.2.born).Nodup := by rw [hR]; exact (List.Sublist.map _ List.filter_sublist).nodup hb
  have hp := perm_out (fun z : (AV × AV) × MapEntry => z.2.born) hbR hzR
  have hR' : ((es.zip ms).filter fun y => !(seen.push z.2.born).contains y.2.born) = R.filter fun y => y.2.born != z.2.born := by
    rw [hR, List.filter_filter]
    refine List.filter_congr fun y _ => ?_
    rw [Array.contains_push]
    cases seen.contains y.2.born <;> simp [bne, Bool.beq_comm]
  unfold KeysLeft at h
  rw [← hR] at h
  have key : (ks ++ z.1.1 :: (R.filter fun y => y.2.born != z.2.born).map (·.1.1)).Perm (es.map Prod.fst) :=
    (List.Perm.append_left ks ((hp.map fun (y : (AV × AV) × MapEntry) => y.1.1).symm)).trans h
  refine ⟨z, hz', rfl, ?_, _, key⟩
  unfold KeysLeft
  rw [hR', List.append_assoc]
  exact key
def KInv (σ : List Ent) (w0 : World) (ρ0 : Ro) (n₀ l m : Nat) (es : List (AV × AV)) (ms : List MapEntry) (clock : Nat) (T : List AV → List Ent) (ks : List AV) (a : Act) (w : World) : Prop :=
  ∃ ρ seen c0, RelS ρ ⟨kEnv n₀ l, T ks, 14⟩ a w ∧ StpN n₀ ρ0 σ w0 ρ (T ks) w ∧ w0.heap.size ≤ ρ.b n₀ ∧ w.heap[ρ0.b m]? = some (.map ms.toArray clock) ∧
    w.heap[ρ.b n₀]? = some (.mapIter (some (ρ0.b m)) clock seen c0) ∧ clock ≤ c0 ∧ (∀ o, ¬ Own ρ (T ks) (ρ0.b m) o) ∧ (∀ o, ¬ Own ρ (T ks) (ρ.b n₀) o) ∧ KeysLeft es ms seen ks ∧
    All2 (fun (x : AV × AV) (m : MapEntry) => Val w (Stay ρ (T ks)) ρ 0 x.1 m.key ∧ Val w (Stay ρ (T ks)) ρ 0 x.2 m.val) es ms
theorem rel_back {τ : List Ent} (h : Rel ρ τ w) {m : Nat} {es : List (AV × AV)} {ms : List MapEntry} {clock : Nat} (hm : τ[m]? = some .dead) (hb : w.heap[ρ.b m]? = some (.map ms.toArray clock))
    (hes : All2 (fun (x : AV × AV) (m : MapEntry) => Val w (Stay ρ τ) ρ 0 x.1 m.key ∧ Val w (Stay ρ τ) ρ 0 x.2 m.val) es ms) (h3 : ∀ m ∈ ms, m.born < clock) (h4 : (ms.map (·.born)).Nodup)
    (hno : ∀ o, ¬ Own ρ τ (ρ.b m) o) (hx : ∀ o, ¬ ρ.x (ρ.b m) o) :
    Rel ρ (setN τ m (.mp es)) w ∧ Keeps w w (Stay ρ τ) (Stay ρ (setN τ m (.mp es))) ρ ρ τ.length (setN τ m (.mp es)).length ∧ ∀ b o, Own ρ (setN τ m (.mp es)) b o → Own ρ τ b o ∨ b = ρ.b m := by
  have hlen : (setN τ m (.mp es)).length = τ.length := by rw [setN_eq]; simp
  have hown : ∀ b o, Own ρ (setN τ m (.mp es)) b o → Own ρ τ b o ∨ b = ρ.b m := by
    rintro b o ⟨i, f, hi, ho⟩
    rcases get_set hi with ⟨rfl, rfl⟩ | ⟨hne, hi⟩
    · exact .inr ho.symm
    · exact .inl ⟨i, f, hi, ho⟩
  have hk : Keeps w w (Stay ρ τ) (Stay ρ (setN τ m (.mp es))) ρ ρ τ.length (setN τ m (.mp es)).length := by
    refine ⟨fun b o u hs hu => ⟨⟨fun ho => ?_, hs.2⟩, hu⟩, by rw [hlen]; exact Nat.le_refl _, fun _ _ => rfl, fun _ _ => .inl rfl, .refl _⟩
    rcases hown b o ho with h | rfl
    · exact hs.1 h
    · obtain ⟨c, e, f, hc, _⟩ := cellAt_of hu
      rw [hb] at hc; simp at hc
  refine ⟨⟨fun j f hj => ?_, fun i j e f b o hi hj he hf => ?_, h.xlt, fun b o ho => ?_, h.gok⟩, hk, hown⟩
  · rcases get_set hj with ⟨rfl, rfl⟩ | ⟨hne, hj⟩
    · exact ⟨ms, clock, hb, hes.imp fun _ _ hh => ⟨hh.1.keep hk.zero, hh.2.keep hk.zero⟩, h3, h4⟩
    · exact (h.ents j f hj).keep hk (lt_of_get hj) rfl (fun _ => rfl) (fun _ _ c e f hc => ⟨c, hc, rfl, fun _ _ _ => rfl⟩) (fun _ _ _ => ⟨rfl, fun _ _ => rfl⟩)
  · rcases get_set hi with ⟨e1, e2⟩ | ⟨hne, hi'⟩
    · rcases get_set hj with ⟨e3, e4⟩ | ⟨hne', hj'⟩
      · rw [e1, e3]
      · rw [e1, e2] at he
        have : ρ.b m = b := he
        exact absurd ⟨j, f, hj', by rw [this]; exact hf⟩ (hno o)
    · rcases get_set hj with ⟨e3, e4⟩ | ⟨hne', hj'⟩
      · rw [e3, e4] at hf
        have : ρ.b m = b := hf
        exact absurd ⟨i, e, hi', by rw [this]; exact he⟩ (hno o)
      · exact h.disj i j e f b o hi' hj' he hf
  · rcases hown b o ho with h' | rfl
    · exact h.xown _ _ h'
    · exact hx o
theorem keys_code (ht : TabOk P tab) {ag : Bool} {mt kt ft bt et : TypeId} (hmt : P.underlying mt = some (.map kt et)) (hn : σ.length = n₀) {l c m : Nat} {es : List (AV × AV)} (hm : nth σ m = some (.mp es))
    {Q : Ex → St → Prop} (T : List AV → List Ent) (hT : ∀ ks, n₀ + 1 ≤ (T ks).length) (hTm : ∀ ks, nth (T ks) m = some .dead)
    (hload : ∀ J, J = std P n₀ → aops J tab (kR0 mt).toList [{ dst := some 4, op := .load mt (.tmp 1), type := mt, pos := "iter.go:27", after := #[], guard := none }] ⟨argEnv 0 [.yld l, .ptr c 0], σ, 14⟩ (fun s' => ∃ env, s' = ⟨env, σ, 14⟩ ∧ look env 4 = .mp m ∧ look env 0 = .yld l) (fun _ _ => False))
    (h0 : Turn (n₀ + 1) ⟨kEnv n₀ l, setN (snoc σ .dead) m .dead, 14⟩ ⟨kEnv n₀ l, T [], 14⟩)
    (hy : ∀ J, J = std P (n₀ + 1) → ∀ ks k, (∃ rest, (ks ++ k :: rest).Perm (es.map Prod.fst)) → ∀ N : St → Prop, (∀ s', Turn (n₀ + 1) s' ⟨kEnv n₀ l, T (ks ++ [k]), 14⟩ → N s') →
      aops J tab (kR2 kt ag).toList ((kR2 kt ag).toList.drop 1) ⟨(8, .tup [k, .junk]) :: kEnv n₀ l, T ks, 14⟩ (fun s => awp J tab (kRest kt ft bt ag) (thenQ N (fun _ _ => False)) s) (fun _ _ => False))
    (hq : ∀ ks, ks.Perm (es.map Prod.fst) → Q .normal ⟨[(0, .yld l)], setN (T ks) m (.mp es), 14⟩) :
    CodeA P n₀ (keysCode mt kt ft bt ag) Q ⟨argEnv 0 [.yld l, .ptr c 0], σ, 14⟩ := by
  intro rd ρ a w _ hrd hs
  have hm' : σ[m]? = some (.mp es) := by rw [← nth_eq]; exact hm
  obtain ⟨ms, clock, g1, g2, g3, g4⟩ := hs.rel.ents m _ hm'
  have hmn : m < n₀ := hn ▸ lt_of_get hm'
  have hlen := g2.length
  unfold keysCode
  refine wpIn_seq (wpIn_region ?_)
  rw [show List.range (kR0 mt).size = [0, 1] from rfl, wpOpsIn_cons]
  refine aops_step ht (r := []) rfl (hload _ rfl) hs (fun s' ρ1 a1 w1 hk hn1 hr1 hst1 => ?_) (fun x v ρ' σ' w' hx _ _ _ => hx.elim)
  obtain ⟨env, rfl, he4, he0⟩ := hk
  have hv4 : a1.tmps.getD 4 undef = .map (some (ρ1.b m)) := by
    have := hr1.vals 4
    rw [show look (St.mk env σ 14).env 4 = .mp m from he4] at this
    exact (val_mp this).2
  have hb1 : ρ1.b m = ρ.b m := hst1.rb m (by rw [hn]; exact hmn)
  have hno0 : Own ρ σ (ρ.b m) 0 := ⟨m, _, hm', rfl⟩
  obtain ⟨ms1, clock1, k1, k2, k3, k4⟩ := hr1.rel.ents m _ hm'
  rw [wpOpsIn_cons]
  unfold wpOpIn
  rw [show (kR0 mt)[1]? = some { dst := some 5, op := .range mt (.tmp 4), type := 0, pos := "iter.go:27", after := #[{ on := 0, ground := .data }], guard := none } from rfl]
  simp only [Region.wanted, if_true]
  refine wpIn_of_wp (by simp) (wp_value (v := .pointer (some ⟨w1.heap.size, 0, none⟩)) (w' := w1.alloc (.mapIter (some (ρ1.b m)) clock1 #[] clock1)) ?_ ?_)
  · simp [execOp, Act.eval, hv4, run_range_map w1 mt kt et (ρ1.b m) ms1.toArray clock1 hmt k1]
  simp only [wpOpsIn, Exit.then]
  have hw2 : ∀ (k : Nat) ob, w1.heap[k]? = some ob → (w1.alloc (.mapIter (some (ρ1.b m)) clock1 #[] clock1)).heap[k]? = some ob := fun k ob hk => heap_alloc_old hk
  have hrel1 : Rel ρ1 σ w1 := hr1.rel
  have hpush := hrel1.push (ρ' := ρ1.add σ.length w1.heap.size) (w' := w1.alloc (.mapIter (some (ρ1.b m)) clock1 #[] clock1)) (e := .dead) (fun i hi => by simp [Ro.add]; omega) (fun _ _ => rfl) rfl rfl rfl rfl rfl hw2 (by simp) (fun b o ho => ho.elim) (fun _ => trivial)
  have hkill := rel_kill hpush.2 m
  have hst2 : StpN n₀ ρ σ w (ρ1.add σ.length w1.heap.size) (setN (σ ++ [.dead]) m .dead) (w1.alloc (.mapIter (some (ρ1.b m)) clock1 #[] clock1)) := ((hst1.trans' hpush.1).trans' hkill.1).le (by rw [hn]; exact Nat.le_refl _)
  obtain ⟨w2, hw2e⟩ : ∃ x, x = w1.alloc (.mapIter (some (ρ1.b m)) clock1 #[] clock1) := ⟨_, rfl⟩
  rw [← hw2e] at hw2 hpush hkill hst2 ⊢
  --generalize hw2e : w1.alloc (.mapIter (some (ρ1.b m)) clock1 #[] clock1) = w2 at *
  have hr2 : RelS (ρ1.add σ.length w1.heap.size) ⟨kEnv n₀ l, setN (snoc σ .dead) m .dead, 14⟩ (a1.put (some 5) (.pointer (some ⟨w1.heap.size, 0, none⟩))) w2 := by
    have hw5 : Val w2 (Stay (ρ1.add σ.length w1.heap.size) (setN (σ ++ [.dead]) m .dead)) (ρ1.add σ.length w1.heap.size) (setN (σ ++ [.dead]) m .dead).length (.ptr n₀ 0) (.pointer (some ⟨w1.heap.size, 0, none⟩)) := by
      refine ⟨1, by rw [setN_eq]; simp [hn], ?_⟩
      simp [Ro.add, hn]
    have hr1' : RelS ρ1 ⟨[(0, .yld l)], σ, 14⟩ a1 w1 := ⟨hr1.defers, hr1.size, hr1.rel, fun t => by
      by_cases e : t = 0
      · subst e
        have := hr1.vals 0
        rw [show look (St.mk env σ 14).env 0 = .yld l from he0] at this
        exact this
      · rw [show look (St.mk [(0, AV.yld l)] σ 14).env t = .junk from by
          have : beN 0 t = false := by
            cases hb : beN 0 t with
            | false => rfl
            | true => exact absurd (beN_t hb).symm e
          simp [look, this]]
        exact Val.junk⟩
    have := put_rel hr1' (d := some 5) (by rfl) hw5 (hpush.1.trans' hkill.1) hkill.2
    rw [snoc_eq]
    exact this
  have hr2b : Rel (ρ1.add σ.length w1.heap.size) (setN (σ ++ [.dead]) m .dead) w2 := hkill.2
  have head : KInv σ w ρ n₀ l m es ms1 clock1 T [] (a1.put (some 5) (.pointer (some ⟨w1.heap.size, 0, none⟩))) w2 := by
    obtain ⟨ρ3, h3r, h3s'⟩ := h0 _ _ _ hr2
    have h3s : StpN (n₀ + 1) (ρ1.add σ.length w1.heap.size) (setN (σ ++ [.dead]) m .dead) w2 ρ3 (T []) w2 := by rw [← snoc_eq]; exact h3s'
    have hb3 : ρ3.b n₀ = w1.heap.size := by rw [h3s.rb n₀ (by omega)]; simp [Ro.add, hn]
    have hb4 : w2.heap[w1.heap.size]? = some (.mapIter (some (ρ1.b m)) clock1 #[] clock1) := by rw [hw2e]; exact World.alloc_heap_new _ _
    have hkeep := (hpush.1.trans' hkill.1)
    have hno : ∀ (b : Nat) o, b < w2.heap.size → ¬ Own (ρ1.add σ.length w1.heap.size) (setN (σ ++ [.dead]) m .dead) b o → ¬ Own ρ3 (T []) b o := fun b o hb hno h => hno (h3s.own b o hb h)
    have o1 : ∀ o, ¬ Own (ρ1.add σ.length w1.heap.size) (setN (σ ++ [.dead]) m .dead) (ρ.b m) o := by
      rintro o ⟨i, f, hi, ho⟩
      rcases get_set hi with ⟨rfl, rfl⟩ | ⟨hne, hi⟩
      · exact ho
      · rcases get_push hi with ⟨hl, hi⟩ | ⟨rfl, rfl⟩
        · have : OwnE ρ1 i (ρ.b m) o f := (OwnE.congr (ρ := ρ1) (ρ' := ρ1.add σ.length w1.heap.size) (by simp [Ro.add]; omega) rfl).1 ho
          exact hne (hrel1.disj i m f _ _ _ hi hm' this hb1)
        · exact ho
    have o2 : ∀ o, ¬ Own (ρ1.add σ.length w1.heap.size) (setN (σ ++ [.dead]) m .dead) w1.heap.size o := by
      rintro o ⟨i, f, hi, ho⟩
      rcases get_set hi with ⟨rfl, rfl⟩ | ⟨hne, hi⟩
      · exact ho
      · rcases get_push hi with ⟨hl, hi⟩ | ⟨rfl, rfl⟩
        · have : OwnE ρ1 i w1.heap.size o f := (OwnE.congr (ρ := ρ1) (ρ' := ρ1.add σ.length w1.heap.size) (by simp [Ro.add]; omega) rfl).1 ho
          exact Nat.lt_irrefl _ (own_size hrel1 ⟨i, f, hi, this⟩)
        · exact ho
    refine ⟨ρ3, #[], clock1, h3r, StpN.trans hst2 h3s (Nat.le_succ _), ?_, ?_, ?_, Nat.le_refl _, fun o => hno _ o ?_ (o1 o), fun o => ?_, left_start (by rw [k2.length]), ?_⟩
    · rw [hb3]; exact hst1.size
    · rw [← hb1]; exact hw2 _ _ k1
    · rw [hb3, hb4, hb1]
    · exact lt_of_heap (hw2 _ _ (hb1 ▸ k1))
    · rw [hb3]; exact hno _ o (lt_of_heap hb4) (o2 o)
    · exact k2.imp fun _ _ hh => ⟨(hh.1.keep hkeep.keeps.zero).keep h3s.keeps.zero, (hh.2.keep hkeep.keeps.zero).keep h3s.keeps.zero⟩
  refine wpIn_block ?_
  refine wp_loop (KInv σ w ρ n₀ l m es ms1 clock1 T) (fun ks => es.length - ks.length) ?_ [] _ _ head
  clear head hr2 hr2b hkill hpush hst2 hw2
  intro ks a3 w3 ⟨ρ3, seen, c0, i1, i2, i3, i4, i5, i6, i7, i8, i9, i10⟩
  unfold kBody
  refine wpIn_seq (wpIn_region ?_)
  rw [show List.range (kR1 bt).size = [0, 1] from rfl, wpOpsIn_cons]
  unfold wpOpIn
  rw [show (kR1 bt)[0]? = some { dst := some 6, op := .next (.tmp 5) false, type := 0, pos := "iter.go:27", after := #[], guard := none } from rfl]
  simp only [Region.wanted, if_true]
  have hv5 : a3.tmps.getD 5 undef = .pointer (some ⟨ρ3.b n₀, 0, none⟩) := (val_ptr (i1.vals 5)).2
  have hsz3 : a3.tmps.size = 14 := i1.size
  have hold : ∀ x ∈ ms1.toArray.toList, x.born < clock1 := fun x hx => k3 x (by simpa using hx)
  have next := run_next_at (P := P) w3 0 (ρ3.b n₀) (ρ.b m) clock1 c0 seen ms1.toArray clock1 i5 i4 hold i6
  have ex : ∀ (a4 : Act) (w4 : World) (b : Bool) (rest : List Value) (Qx : Exit → Act → World → Prop), a4.tmps.getD 6 undef = .tuple (Value.bool b :: rest).toArray → Qx .normal (a4.put (some 7) (.bool b)) w4 → wpOpsIn (fen rd) 0 P (kR1 bt) Qx [1] a4 w4 := by
    intro a4 w4 b rest Qx h6 hx
    rw [wpOpsIn_cons]
    unfold wpOpIn
    rw [show (kR1 bt)[1]? = some { dst := some 7, op := .extract (.tmp 6) 0, type := bt, pos := "iter.go:27", after := #[{ on := 0, ground := .data }], guard := none } from rfl]
    simp only [Region.wanted, if_true]
    refine wpIn_of_wp (by simp) (wp_value (v := .bool b) (w' := w4) ?_ hx)
    simp [execOp, Act.eval, h6, Instr.extract]
  rcases next with ⟨e0, hrun⟩ | ⟨e, he, w4, hw4, hrun⟩
  ·
    refine wpIn_of_wp (by simp) (wp_value (v := .tuple #[.bool false]) (w' := w3) ?_ ?_)
    · simp [execOp, Act.eval, hv5, hrun]
    refine ex _ _ false [] _ (by simp [Act.put, hsz3]) ?_
    simp only [Exit.then]
    refine wpIn_seq (wpIn_cond (t := false) (by simp [Act.eval, Act.put, hsz3]) (wpIn_exit ?_))
    simp only [Exit.then]
    refine .inr ⟨by simp, by simp, ?_⟩
    simp only [Exit.inBlock, if_true]
    have hmb : ρ3.b m = ρ.b m := i2.rb m hmn
    obtain ⟨b1, b2, b3⟩ := rel_back i1.rel (by rw [← nth_eq]; exact hTm ks) (hmb ▸ i4) i10 k3 k4 (fun o => by rw [hmb]; exact i7 o) (fun o => by rw [hmb, i2.rx]; exact hs.rel.xown _ _ ⟨m, _, hm', rfl⟩)
    have r1 := put_rel i1 (d := some 6) (by rfl) (v := .junk) (u := .tuple #[.bool false]) Val.junk (Stp.refl _ _ _) i1.rel
    have r2 := put_rel r1 (d := some 7) (by rfl) (v := .junk) (u := .bool false) Val.junk (Stp.refl _ _ _) i1.rel
    have r3 : RelS ρ3 ⟨[(0, .yld l)], T ks, 14⟩ ((a3.put (some 6) (.tuple #[.bool false])).put (some 7) (.bool false)) w3 := ((r2.drop (env := (6, .junk) :: kEnv n₀ l) rfl).drop (env := kEnv n₀ l) rfl).drop rfl
    refine ⟨.normal, _, ρ3, hq ks (left_end i9 e0), rfl, ⟨r3.defers, r3.size, b1, fun t => (r3.vals t).keep b2⟩, ?_⟩
    exact ⟨i2.os, i2.tape, i2.output, i2.size, i2.frm, fun b o hb ho => by
      rcases b3 b o ho with h | h
      · exact i2.own b o hb h
      · rw [h, hmb]; exact ⟨m, _, hm', rfl⟩, by show n₀ ≤ (setN (T ks) m (.mp es)).length; rw [setN_eq, List.length_set]; exact i2.len, i2.rb, i2.rt, i2.rx, i2.rm, i2.rg.trans (.set (fun _ _ h => by cases h))⟩
  ·
    obtain ⟨z, hz, rfl, hleft, rest, hperm⟩ := left_step i9 k2.length k4 he
    have hr4 : w4.heap[ρ3.b n₀]? = some (.mapIter (some (ρ.b m)) clock1 seen c0) := by rcases hw4 with rfl | rfl <;> exact i5
    have hset := MapKept.heap_set (o' := .mapIter (some (ρ.b m)) clock1 (seen.push z.2.born) clock1) hr4
    obtain ⟨w5, hw5⟩ : ∃ x, x = ChangeMaps.setBlock w4 (ρ3.b n₀) (.mapIter (some (ρ.b m)) clock1 (seen.push z.2.born) clock1) := ⟨_, rfl⟩
    rw [← hw5] at hrun
    replace hset : w5.heap[ρ3.b n₀]? = some (.mapIter (some (ρ.b m)) clock1 (seen.push z.2.born) clock1) ∧ ∀ k, k ≠ ρ3.b n₀ → w5.heap[k]? = w4.heap[k]? := by rw [hw5]; exact hset
    have hsz5 : w5.heap.size = w3.heap.size := by rw [hw5]; rcases hw4 with rfl | rfl <;> simp [ChangeMaps.setBlock]
    have hh5 : ∀ k, k ≠ ρ3.b n₀ → w5.heap[k]? = w3.heap[k]? := fun k hk => by
      rw [hset.2 k hk]; rcases hw4 with rfl | rfl <;> rfl
    have hos5 : w5.os = w3.os ∧ w5.tape = w3.tape ∧ w5.output = w3.output := by rw [hw5]; rcases hw4 with rfl | rfl <;> exact ⟨rfl, rfl, rfl⟩
    obtain ⟨rel5, keep5⟩ := rel_iter i1.rel i5 (by simp) i8 hsz5 hh5
    have st5 : StpN n₀ ρ σ w ρ3 (T ks) w5 := ⟨hos5.1.trans i2.os, hos5.2.1.trans i2.tape, hos5.2.2.trans i2.output, by rw [hsz5]; exact i2.size, fun b ob hb => by
      rw [hh5 b (by have := lt_of_heap hb; omega)]; exact i2.frm b ob hb, i2.own, i2.len, i2.rb, i2.rt, i2.rx, i2.rm, i2.rg⟩
    have hbm : w5.heap[ρ.b m]? = some (.map ms1.toArray clock1) := by
      rw [hh5 _ fun e => by rw [e, i5] at i4; simp at i4]; exact i4
    have r0 : RelS ρ3 ⟨kEnv n₀ l, T ks, 14⟩ a3 w5 := ⟨marks_iter i5 (by simp) hsz5 hh5 i1.defers, i1.size, rel5, fun t => (i1.vals t).keep keep5⟩
    have r1 := put_rel r0 (d := some 6) (by rfl) (v := .junk) (u := .tuple #[.bool true, z.2.key, z.2.val]) Val.junk (Stp.refl _ _ _) rel5
    have r2 := put_rel r1 (d := some 7) (by rfl) (v := .junk) (u := .bool true) Val.junk (Stp.refl _ _ _) rel5
    have r3 : RelS ρ3 ⟨kEnv n₀ l, T ks, 14⟩ ((a3.put (some 6) (.tuple #[.bool true, z.2.key, z.2.val])).put (some 7) (.bool true)) w5 := (r2.drop (env := (6, .junk) :: kEnv n₀ l) rfl).drop (env := kEnv n₀ l) rfl
    have hkv := all2_zip i10 z hz
    have r4 : RelS ρ3 ⟨(8, .tup [z.1.1, .junk]) :: kEnv n₀ l, T ks, 14⟩ (((a3.put (some 6) (.tuple #[.bool true, z.2.key, z.2.val])).put (some 7) (.bool true)).put (some 8) (.tuple #[z.2.key, z.2.val])) w5 := by
      refine put_rel r3 (d := some 8) (by rfl) (v := .tup [z.1.1, .junk]) ?_ (Stp.refl _ _ _) rel5
      obtain ⟨d, hd⟩ : Val w5 (Stay ρ3 (T ks)) ρ3 (T ks).length z.1.1 z.2.key := (hkv.1.keep keep5.zero).keep ⟨fun _ _ _ h1 h2 => ⟨h1, h2⟩, Nat.zero_le _, fun i hi => by omega, fun i hi => by omega, .refl _⟩
      cases d with
      | zero => exact hd.elim
      | succ d => exact ⟨d + 2, [z.2.key, z.2.val], rfl, hd, trivial, trivial⟩
    refine wpIn_of_wp (by simp) (wp_value (v := .tuple #[.bool true, z.2.key, z.2.val]) (w' := w5) ?_ ?_)
    · simp [execOp, Act.eval, hv5, hrun]
    refine ex _ _ true [z.2.key, z.2.val] _ (by simp [Act.put, hsz3]) ?_
    simp only [Exit.then]
    refine wpIn_seq (wpIn_cond (t := true) (by simp [Act.eval, Act.put, hsz3]) (wpIn_skip ?_))
    simp only [Exit.then]
    refine wpIn_block (wpIn_seq (wpIn_region ?_))
    rw [show List.range (kR2 kt ag).size = 0 :: List.range' 1 ((kR2 kt ag).toList.drop 1).length from by cases ag <;> rfl, wpOpsIn_cons]
    unfold wpOpIn
    rw [show (kR2 kt ag)[0]? = some { dst := some 8, op := .entry (.tmp 5), type := 0, pos := "iter.go:27", after := #[], guard := none } from by cases ag <;> rfl]
    simp only [Region.wanted, if_true]
    have hv5' : ((a3.put (some 6) (.tuple #[.bool true, z.2.key, z.2.val])).put (some 7) (.bool true)).tmps.getD 5 undef = .pointer (some ⟨ρ3.b n₀, 0, none⟩) := (val_ptr (r3.vals 5)).2
    refine wpIn_of_wp (by simp) (wp_value (v := .tuple #[z.2.key, z.2.val]) (w' := w5) ?_ ?_)
    · simp [execOp, Act.eval, hv5', run_entry_at w5 (ρ3.b n₀) (ρ.b m) clock1 seen ms1.toArray clock1 z.2 hset.1 hbm (by simpa using (List.of_mem_zip hz).2) (by simpa using k4)]
    have hrd5 : IsRound rd w5 := hrd.step st5
    refine aops_sound ht ((kR2 kt ag).toList.drop 1) 1 rfl (hy _ rfl ks z.1.1 ⟨rest, hperm⟩ (fun s' => Turn (n₀ + 1) s' ⟨kEnv n₀ l, T (ks ++ [z.1.1]), 14⟩) (fun _ h => h)) r4 ⟨fun s6 ρ6 a6 w6 hk6 hn6 hr6 hst6 => ?_, fun x v ρ' σ' w' a' hx _ _ _ _ _ => hx.elim⟩
    simp only [Exit.then]
    have st6 : StpN n₀ ρ σ w ρ6 s6.hp w6 := st5.trans' hst6
    refine wpIn_mono (awp_sound ht _ _ _ hk6 rd ρ6 a6 w6 (Nat.le_trans (hT ks) hst6.len) (hrd.step st6) hr6) ?_
    rintro e7 a7 w7 ⟨x7, s7, ρ7, hq7, hx7, hr7, hst7⟩
    cases x7 with
    | exit i => exact hq7.elim
    | ret => exact hq7.elim
    | pan v => exact hq7.elim
    | normal =>
      simp only [exOk] at hx7; subst hx7
      obtain ⟨ρ8, hr8, hst8⟩ := hq7 ρ7 a7 w7 hr7
      simp only [Exit.inBlock]
      refine .inl ⟨trivial, ks ++ [z.1.1], ?_, ?_⟩
      · have h1 := hperm.length_eq
        simp only [List.length_append, List.length_cons, List.length_nil, List.length_map] at h1 ⊢
        omega
      · have stx : StpN (n₀ + 1) ρ3 (T ks) w5 ρ8 (T (ks ++ [z.1.1])) w7 := (StpN.trans (hst6.le (hT ks)) hst7 (Nat.le_refl _)).trans hst8 (Nat.le_refl _)
        have hfr : ∀ (b : Nat) ob, w5.heap[b]? = some ob → (∀ c e f, ob ≠ .cells c e f) → (∀ r, ob ≠ .loop r) → (∀ o, ¬ Own ρ3 (T ks) b o) → w7.heap[b]? = some ob ∧ ∀ o, ¬ Own ρ8 (T (ks ++ [z.1.1])) b o := by
          intro b ob hb h1 h2 h3
          refine ⟨?_, fun o ho => h3 o (stx.own b o (lt_of_heap hb) ho)⟩
          obtain ⟨ob', g, g'⟩ := stx.frm b ob hb
          cases ob <;> first | exact absurd rfl (h1 _ _ _) | exact absurd rfl (h2 _) | (rcases g' with g' | g' <;> first | exact absurd g' (h3 0) | (rw [g, g']))
        have hb8 : ρ8.b n₀ = ρ3.b n₀ := stx.rb n₀ (Nat.lt_succ_self _)
        obtain ⟨m1, m2⟩ := hfr _ _ hbm (by simp) (by simp) i7
        obtain ⟨m3, m4⟩ := hfr _ _ hset.1 (by simp) (by simp) i8
        exact ⟨ρ8, seen.push z.2.born, clock1, hr8, StpN.trans st5 stx (Nat.le_succ _), by rw [hb8]; exact i3, m1, by rw [hb8]; exact m3, Nat.le_refl _, m2, by rw [hb8]; exact m4, hleft,
          i10.imp fun _ _ hh => ⟨(hh.1.keep keep5.zero).keep stx.keeps.zero, (hh.2.keep keep5.zero).keep stx.keeps.zero⟩⟩
end
end Go.Pt
namespace Go.Pt
open Go
section
variable {P : Program} {n₀ : Nat} {tab : Nat → Ty} {w : World} {ρ : Ro} {σ : List Ent}
theorem range_at' {J : Jd} (hJ : J = std P n₀) {g : Operand} {ps : Array Tmp} {asg body : Code} {Q : Ex → St → Prop} {s : St} {f : FuncId} {caps : List AV} (hg : s.ev g = .func f caps) (e' : List (Nat × AV)) (hw : wkEnv s.env e')
    (h : CallA P f (.yld (lenN s.hp) :: caps) (snoc s.hp (.lp ps.toList asg body e' s.n .ready none)) (rangeQ Q s (lenN s.hp)) (fun _ _ => False)) : J.code (.rangeFunc g ps asg body) Q s := by
  subst hJ
  intro rd ρ a w hn₀ hrd hs
  have hgv := ev_val hs g
  rw [hg] at hgv
  obtain ⟨cs, hcv, hcs⟩ := val_func hgv
  rw [lenN_eq, snoc_eq] at h
  obtain ⟨⟨fn, c, hfn, hbody, hname⟩, hcall⟩ := h
  have inv : ∀ (args : Array Value) (w : World), (callFunc f args).run P w = .ok (.enter f args) w := by
    intro args w
    simp only [callFunc, Sem.run_bind, run_program, Result.andThen_ok, hfn, hname, hbody, Option.isNone_some, Bool.false_eq_true, if_false, Sem.run_pure]
  refine wpIn_rangeFunc fun fn' _ => ?_
  have key : ∀ (l : Nat) (mark : List Deferred) (w1 : World) (rec : Loop), (Instr.enterLoop fn' a.tmps ps asg body rd).run P w = .ok (l, mark) w1 → w1.heap[l]? = some (.loop rec) → rec.params = ps → rec.assign = asg → rec.body = body → rec.state = .ready → rec.pending = none → rec.tmps = a.tmps →
      w1.os = w.os → w1.tape = w.tape → w1.output = w.output → (∀ (k : Nat) ob, w.heap[k]? = some ob → w1.heap[k]? = some ob) → w.heap.size ≤ l → w.heap.size ≤ w1.heap.size → Marks ρ.m w1 (mark ++ a.defers) →
      ∃ (l : Nat) (mark : List Deferred) (w₁ : World) (d : Deferred) (w₁' : World) (f : FuncId) (args : Array Value) (w₂ : World),
      (Instr.enterLoop fn' a.tmps ps asg body (fen rd).round).run P w = .ok (l, mark) w₁ ∧ (resolve a.eval (rangeCall g l) 0).run P w₁ = .ok d w₁' ∧ (∀ f', Target.leads P w₁' d.target d.args = some f' → (fen rd).fn f') ∧
      (invoke d.target d.args).run P w₁' = .ok (.enter f args) w₂ ∧ ((fen rd).depth.isSome = true → 1 ≤ 0) ∧
      CallsIn (fen rd) (0 - 1) P f args w₂ (rangePost (fen rd) 0 P l (Post n₀ ρ s.hp w Q) { a with defers := mark ++ a.defers }) := by
    intro l mark w1 rec he hl hp1 hp2 hp3 hp4 hp5 hp6 hos htape hout hh hlo hsz hmk
    obtain ⟨ρ1, hρ1⟩ : ∃ ρ1 : Ro, ρ1 = ρ.add s.hp.length l := ⟨_, rfl⟩
    have hpush := hs.rel.push (ρ' := ρ1) (w' := w1) (e := .lp ps.toList asg body e' s.n .ready none) (fun i hi => by rw [hρ1]; simp [Ro.add]; omega) (fun _ _ => by rw [hρ1]; rfl) (by rw [hρ1]; rfl) (by rw [hρ1]; rfl) hos htape hout hh hsz
      (fun b o ho => by rw [hρ1] at ho; simp only [OwnE, Ro.add, if_true] at ho; omega)
      (fun hst => ⟨rec, by rw [hρ1]; simp only [Ro.add, if_true]; exact hl, by rw [hp1], hp2, hp3, hp4, hp5, by rw [hp6]; exact hs.size, fun t => by rw [hp6]; exact (wk_val (_m := 0) (wkEnv_look hw) (hs.vals t)).step hst⟩) (by rw [hρ1]; rfl)
    have hargs : All2 (Val w1 (Stay ρ1 (s.hp ++ [.lp ps.toList asg body e' s.n .ready none])) ρ1 (s.hp ++ [Ent.lp ps.toList asg body e' s.n .ready none]).length) (.yld s.hp.length :: caps) (.func (.yield l) #[] #[] :: cs) := by
      refine ⟨⟨1, ?_⟩, hcs.imp fun _ _ h => h.step hpush.1⟩
      refine ⟨by simp, ?_⟩
      rw [hρ1]; simp [Ro.add]
    have hc := hcall ρ1 w1 (.func (.yield l) #[] #[] :: cs) hpush.2 hargs
    refine ⟨l, mark, w1, { target := .fn (.func f) cs.toArray, args := #[.func (.yield l) #[] #[]] }, w1, f, (.func (.yield l) #[] #[] :: cs).toArray, w1, he, ?_, fun _ _ => trivial, ?_, fun hn => by simp [Fence.wide] at hn, ?_⟩
    · simp only [resolve, hcv]
      simp [Act.eval, Deferred.ofValue]
    · simp [invoke, inv]
    · refine (callsIn_fen hc).mono ?_
      rintro en w3 ⟨ρ3, σ3, hst3, hrel3, hen⟩
      cases en with
      | panicked ch => obtain ⟨_, _, _, hf, _⟩ := hen; exact hf.elim
      | outgrown => exact hen.elim
      | returned v =>
        obtain ⟨r, hq, _⟩ := hen
        have hlb : ρ3.b s.hp.length = l := by rw [hst3.rb _ (by simp), hρ1]; simp [Ro.add]
        unfold rangeQ at hq
        rw [nth_eq] at hq
        have out : ∀ {ps' : List Nat} {asg' body' : Code} {env' : List (Nat × AV)} {k' : Nat} {st' : LoopState} {pe' : Option Code} {r3 : Loop}, σ3[s.hp.length]? = some (.lp ps' asg' body' env' k' st' pe') → w3.heap[ρ3.b s.hp.length]? = some (.loop r3) →
            RelS ρ3 ⟨s.env, setN σ3 s.hp.length .dead, s.n⟩ { a with defers := mark ++ a.defers } (w3.putObj l (.loop { r3 with state := .exhausted })) ∧
            StpN n₀ ρ s.hp w ρ3 (setN σ3 s.hp.length .dead) (w3.putObj l (.loop { r3 with state := .exhausted })) ∧ IsRound rd (w3.putObj l (.loop { r3 with state := .exhausted })) := by
          intro ps' asg' body' env' k' st' pe' r3 hn3 hr3
          have hsh := rel_shut (r' := { r3 with state := .exhausted }) hrel3 hn3 hr3 rfl
          rw [hlb] at hsh
          have hall := (hpush.1.trans hst3 (by simp)).trans' hsh.1
          refine ⟨⟨?_, hs.size, hsh.2, fun t => (hs.vals t).step hall⟩, hall.le hn₀, hrd.step hall⟩
          have hm : ρ3.m = ρ.m := hall.rm
          show Marks ρ3.m _ _
          rw [hm]
          exact (hmk.step hpush.2 hst3).step hrel3 hsh.1
        have hend : ∀ {ps' : List Nat} {asg' body' : Code} {env' : List (Nat × AV)} {k' : Nat} {st' : LoopState} {pe' : Option Code}, σ3[s.hp.length]? = some (.lp ps' asg' body' env' k' st' pe') → st' ≠ .busy →
            ∃ r3 : Loop, w3.heap[ρ3.b s.hp.length]? = some (.loop r3) ∧ (Instr.endLoop l).run P w3 = .ok pe' (w3.putObj l (.loop { r3 with state := .exhausted })) := by
          intro ps' asg' body' env' k' st' pe' hn3 hbz
          obtain ⟨r3, m1, m2, m3, m4, m5, m6, m7, m8⟩ := hrel3.ents _ _ hn3
          refine ⟨r3, m1, ?_⟩
          have := run_endLoop (P := P) (hlb ▸ m1) (by rw [m5]; exact hbz)
          rw [← m6]; exact this
        split at hq
        · rename_i he3
          obtain ⟨_, _, _, _, _, _, hn3, hnb⟩ := overE_some he3
          obtain ⟨r3, m1, m2⟩ := hend hn3 hnb
          obtain ⟨o1, o2, o3⟩ := out hn3 m1
          exact ⟨_, _, m2, .normal, _, ρ3, hq, rfl, o1, o2⟩
        · rename_i he3
          obtain ⟨_, _, _, _, _, _, hn3, hnb⟩ := overE_some he3
          obtain ⟨r3, m1, m2⟩ := hend hn3 hnb
          obtain ⟨o1, o2, o3⟩ := out hn3 m1
          exact ⟨_, _, m2, wpIn_exit ⟨.exit _, _, ρ3, hq, rfl, o1, o2⟩⟩
        · rename_i he3
          obtain ⟨_, _, _, _, _, _, hn3, hnb⟩ := overE_some he3
          obtain ⟨r3, m1, m2⟩ := hend hn3 hnb
          obtain ⟨o1, o2, o3⟩ := out hn3 m1
          exact ⟨_, _, m2, wpIn_ret ⟨.ret, _, ρ3, hq, rfl, o1, o2⟩⟩
        · exact hq.elim
  cases rd with
  | none =>
    refine key _ _ _ _ (run_enterLoop_outer fn' a.tmps ps asg body) (by rw [show w.heap.size + 1 = (w.alloc (.deferred (some []))).heap.size by simp]; exact World.alloc_heap_new _ _) rfl rfl rfl rfl rfl rfl rfl rfl rfl
      (fun k ob hk => heap_alloc_old (heap_alloc_old hk)) (by omega) (by simp; omega) ?_
    have hfl : ρ.m ≤ w.heap.size := by
      have : ∀ {ds : List Deferred}, Marks ρ.m w ds → ρ.m ≤ w.heap.size := by
        intro ds
        induction ds with
        | nil => exact id
        | cons d ds ih => exact fun h => ih h.2
      exact this hs.defers
    refine ⟨⟨w.heap.size, rfl, hfl, heap_alloc_old (World.alloc_heap_new _ _), fun d' hd he => ?_⟩, ?_⟩
    · subst he
      have : ∀ {ds : List Deferred}, Marks ρ.m w ds → ∀ D, ({ target := .collected D, args := #[] } : Deferred) ∈ ds → D < w.heap.size := by
        intro ds
        induction ds with
        | nil => intro _ D h; simp at h
        | cons d ds ih =>
          rintro ⟨⟨D', h1, h2, h3, h4⟩, h5⟩ D hD
          rcases List.mem_cons.1 hD with e | e
          · rw [h1] at e; simp at e; subst e; exact lt_of_heap h3
          · exact ih h5 D e
      have := this hs.defers _ hd
      omega
    · have st1 : ∀ {ds : List Deferred}, Marks ρ.m w ds → Marks ρ.m ((w.alloc (.deferred (some []))).alloc (.loop { state := .ready, pending := none, fn := fn', tmps := a.tmps, params := ps, assign := asg, body, defers := w.heap.size })) ds := by
        intro ds
        induction ds with
        | nil => intro h; exact Nat.le_trans h (by simp; omega)
        | cons d ds ih => rintro ⟨⟨D', h1, h2, h3, h4⟩, h5⟩; exact ⟨⟨D', h1, h2, heap_alloc_old (heap_alloc_old h3), h4⟩, ih h5⟩
      exact st1 hs.defers
  | some l₀ =>
    obtain ⟨q, hq⟩ := hrd l₀ rfl
    refine key _ _ _ _ (run_enterLoop_inner hq fn' a.tmps ps asg body) (World.alloc_heap_new _ _) rfl rfl rfl rfl rfl rfl rfl rfl rfl (fun k ob hk => heap_alloc_old hk) (Nat.le_refl _) (by simp) ?_
    have st1 : ∀ {ds : List Deferred}, Marks ρ.m w ds → Marks ρ.m (w.alloc (.loop { state := .ready, pending := none, fn := fn', tmps := a.tmps, params := ps, assign := asg, body, defers := q.defers })) ds := by
      intro ds
      induction ds with
      | nil => intro h; exact Nat.le_trans h (by simp)
      | cons d ds ih => rintro ⟨⟨D', h1, h2, h3, h4⟩, h5⟩; exact ⟨⟨D', h1, h2, heap_alloc_old h3, h4⟩, ih h5⟩
    exact st1 hs.defers
inductive InlQ (tab : Nat → Ty) (rs : List ResultVar) (n₀ : Nat) (K : AV → List Ent → Prop) (x : Ex) (s : St) : Prop where
  | mk (keep : List Nat) (hk : (rangeN n₀ ++ keep).Nodup) (h : retQ tab rs (rangeN n₀ ++ keep) K (fun _ _ => False) x s)
theorem range_in {J : Jd} (hJ : J = std P n₀) (ht : TabOk P tab) (m : Nat) (e' : List (Nat × AV)) {g : Operand} {ps : Array Tmp} {asg body : Code} {Q : Ex → St → Prop} {s : St} {f : FuncId} {caps : List AV} {fn : Func}
    (hf : P.funcs[f]? = some fn) (hg : s.ev g = .func f caps) (hm : lenN s.hp = m) (hb : fn.body.isSome = true) (hname : (fn.name == "runtime.NumGoroutine") = false) (hargs : leN (caps.length + 1) fn.ntmps = true) (hw : wkEnv s.env e')
    (h : ∀ p a b c cd pu yl ho mt, p = ps.toList → a = asg → b = body → (⟨J.o, c, cd, pu, yl, ho, mt⟩ : Jd) = std P (m + 1) →
      awp ⟨J.o, c, cd, pu, yl, ho, mt⟩ tab (bodyOf fn) (InlQ tab fn.results.toList (m + 1) (rangeQ Q s m)) ⟨argEnv 0 (.yld m :: caps), snoc s.hp (.lp p a b e' s.n .ready none), fn.ntmps⟩) : J.code (.rangeFunc g ps asg body) Q s := by
  subst hm
  refine range_at' hJ hg e' hw ?_
  obtain ⟨c, hc⟩ := Option.isSome_iff_exists.1 hb
  have hJo : J.o = stdOps := by rw [hJ]; rfl
  have h' := h _ _ _ (std P (lenN s.hp + 1)).call (std P (lenN s.hp + 1)).code (std P (lenN s.hp + 1)).pure (std P (lenN s.hp + 1)).yld (std P (lenN s.hp + 1)).hold (std P (lenN s.hp + 1)).mkT rfl rfl rfl (by rw [hJo]; rfl)
  rw [show (⟨J.o, (std P (lenN s.hp + 1)).call, (std P (lenN s.hp + 1)).code, (std P (lenN s.hp + 1)).pure, (std P (lenN s.hp + 1)).yld, (std P (lenN s.hp + 1)).hold, (std P (lenN s.hp + 1)).mkT⟩ : Jd) = std P (lenN s.hp + 1) by rw [hJo]; rfl,
    show bodyOf fn = c by simp [bodyOf, hc]] at h'
  refine call_of_awp ht (n₀ := lenN s.hp + 1) (fun _ s h => ?_) hf hc hname (by simp [snoc_eq, lenN_eq]) (by simpa using leN_t hargs) h'
  cases h with
  | mk keep hk h => exact ⟨s, .inl rfl, keep, hk, h⟩
theorem yield_in {J : Jd} (hJ : J = std P n₀) (ht : TabOk P tab) (m : Nat) {σ : List Ent} {i : Nat} {args : List AV} {K : AV → List Ent → Prop} {ps ps' : List Nat} {asg asg' body body' : Code} {env : List (Nat × AV)} {n : Nat} {pe : Option Code}
    (h1 : ps = ps') (h2 : asg = asg') (h3 : body = body') (hi : nth σ i = some (.lp ps asg body env n .ready pe)) (hm : lenN σ = m) (hl : beN (lenN ps') (lenN args) = true) (hp : allLt ps' n = true)
    (h : ∀ c cd pu yl ho mt, (⟨J.o, c, cd, pu, yl, ho, mt⟩ : Jd) = std P m → awp ⟨J.o, c, cd, pu, yl, ho, mt⟩ tab asg' (asgQ ⟨J.o, c, cd, pu, yl, ho, mt⟩ tab i body' K) ⟨zipEnv ps' args env, σ, n⟩) : J.yld i args σ K := by
  subst h1 h2 h3 hm
  refine yield_at hJ ht hi hl hp fun J' hJ' => ?_
  have hJo : J.o = stdOps := by rw [hJ]; rfl
  have h' := h J'.call J'.code J'.pure J'.yld J'.hold J'.mkT
  have e : (⟨J.o, J'.call, J'.code, J'.pure, J'.yld, J'.hold, J'.mkT⟩ : Jd) = J' := by rw [hJo]; subst hJ'; rfl
  rw [e] at h'
  exact h' hJ'
end
end Go.Pt
