/- slices.Sort on a row of strings. -/import Derived.Test.YtjdbmfipciadfaaMb0
import Derived.Shelf.GgSortFunc.RowK
import Derived.WalkKit
import Derived.Test.YtjdbmfipciadfaaMa4
import Derived.Sort.Walk0
namespace Go.Proofs.Ytjdbmfipciadfaa.A
open Go Go.Shelf Go.RowKit Go.Lib Go.Sort Go.Proofs
def bl (b : ByteArray) : List UInt8 := b.data.toList
def lb (l : List UInt8) : ByteArray := ⟨l.toArray⟩
theorem lb_bl (b : ByteArray) : lb (bl b) = b := by simp [lb, bl]
theorem bl_lb (l : List UInt8) : bl (lb l) = l := by simp [lb, bl]
def sortL (l : List (List UInt8)) : List (List UInt8) := l.mergeSort fun x y => decide (x ≤ y)
def sortS (ks : List ByteArray) : List ByteArray := (sortL (ks.map bl)).map lb
theorem putRow_map {α : Type} [Inhabited α] (enc : α → Value) (w : World) (blk off : Nat) (d : Array α) : putRow enc w blk off d = putRow id w blk off (d.map enc) := by
  have : putCells enc off d = putCells id off (d.map enc) := by
    funext c
    apply Array.ext_getElem?
    intro k
    simp only [putCells, Array.getElem?_mapIdx, Array.size_map]
    cases c[k]? with
    | none => rfl
    | some x =>
      simp only [Option.map_some, Option.some.injEq]
      by_cases hk : off ≤ k ∧ k < off + d.size
      · rw [if_pos hk, if_pos hk, getElem!_pos d (k - off) (by omega), getElem!_pos (d.map enc) (k - off) (by simp; omega)]
        simp
      · rw [if_neg hk, if_neg hk]
  unfold putRow
  rw [this]
section
open Go.Pt
variable {ρ : Ro} {σ : List Ent} {w : World}
theorem rel_aheadS (h : Rel ρ σ w) (n : Nat) : Stp ρ σ w ρ σ (Sort.ahead w n) ∧ Rel ρ σ (Sort.ahead w n) := rel_same h rfl rfl rfl rfl
theorem rel_growS (h : Rel ρ σ w) : ∀ (l : List Obj), Stp ρ σ w ρ σ (grow w l.toArray) ∧ Rel ρ σ (grow w l.toArray) := by
  intro l
  induction l generalizing w with
  | nil => rw [grow_empty]; exact ⟨Stp.refl _ _ _, h⟩
  | cons o l ih =>
    have h1 := rel_free (s := ⟨[], σ, 0⟩) h o
    rw [alloc_eq_grow] at h1
    have h2 := ih h1.2
    rw [grow_grow] at h2
    rw [show (o :: l).toArray = #[o] ++ l.toArray by simp]
    exact ⟨h1.1.trans' h2.1, h2.2⟩
theorem setMany_allS : ∀ (vs : List Value) (pre : List Value) (F : Array Value), F.size = pre.length + vs.length → (∀ i : Nat, i < pre.length → F[i]? = pre[i]?) → setMany F pre.length vs = (pre ++ vs).toArray
  | [], pre, F, hs, hp => by
    apply Array.ext_getElem?
    intro i
    simp only [setMany]
    by_cases h : i < pre.length
    · rw [hp i h]; simp
    · rw [Array.getElem?_eq_none (by simp at hs; omega)]; simp; omega
  | v :: vs, pre, F, hs, hp => by
    have := setMany_allS vs (pre ++ [v]) (F.setIfInBounds pre.length v) (by simp at hs ⊢; omega) (fun i hi => by
      simp at hi hs
      rw [Array.getElem?_setIfInBounds]
      by_cases e : pre.length = i
      · subst e; simp; omega
      · rw [if_neg e, hp i (by omega), List.getElem?_append_left (by omega)])
    simp only [setMany]
    rw [List.length_append] at this
    simp only [List.length_cons, List.length_nil, Nat.zero_add] at this
    rw [this, List.append_assoc]; rfl
theorem sort_worldS (blk off n : Nat) (d d' : Array (List UInt8)) (hH : Holds encStr w blk off d) (hs : d'.size = d.size) :
    putRow encStr (Sort.ahead w n) blk off d' = Sort.ahead (w.setCells blk off (d'.map encStr).toList) n := by
  rw [putRow_ahead]
  have h1 := setCells_putRow w blk off (d'.map encStr).toList 0 (d.map encStr) (by simp [hs])
  rw [← putRow_map, putRow_self _ _ _ _ _ hH] at h1
  rw [Nat.add_zero] at h1
  have h2 := setMany_allS (d'.map encStr).toList [] (d.map encStr) (by simp [hs]) (by simp)
  simp only [List.length_nil, List.nil_append, Array.toArray_toList] at h2
  rw [h1, h2, ← putRow_map]
theorem f155_some (l : List ByteArray) (hl : l.length < 2 ^ 42) (hne : l ≠ []) (q : Int) (hq : q = l.length)
    (K E : AV → List Ent → Prop) (h : K .junk [.vec 1 ((sortS l).map nav)]) : CallA Try.prog 155 [.vs 0 1 0 q q] [.vec 1 (l.map nav)] K E := by
  refine ⟨⟨_, _, Try.func155, rfl, rfl⟩, fun ρ w vs hrel hvs => ?_⟩
  match vs, hvs with
  | [v], ⟨hv, _⟩ =>
    obtain ⟨hpos, hfit, hblk, hel⟩ := hrel.ents 0 _ rfl
    obtain ⟨_, ad, len, cap, rfl, hlen, hcap, _, lo, hlo, hN, ha⟩ := val_vs hv
    have hlo0 : lo = 0 := by omega
    subst hlo0
    have hpl : 0 < l.length := by cases l with | nil => exact absurd rfl hne | cons _ _ => simp
    obtain ⟨rfl, hend⟩ := ha hpos (by omega)
    have hlen' : len = (l.map bl).length := by rw [List.length_map]; omega
    subst hlen'
    rw [Nat.zero_mul, Nat.add_zero] at ha ⊢
    have hlm : (l.map nav).length = l.length := by simp
    rw [hlm] at hfit
    obtain ⟨c, e, f, hc, hcs', hfz⟩ := hblk (by omega)
    have hH : Holds encStr w (ρ.t 0).blk (ρ.t 0).start (l.map bl).toArray := by
      intro j hj
      have hj' : j < l.length := by simpa using hj
      obtain ⟨vs, v1, v2, v3⟩ := hel j (nav l[j]) (by rw [List.getElem?_map, List.getElem?_eq_getElem hj']; rfl)
      refine ⟨?_, hfz _ (by omega) (by omega)⟩
      match vs, v1 with
      | [a], ⟨ha1, _⟩ =>
        rw [val_str ha1] at v3
        have h3 := (v3 0 _ rfl).1
        rw [Nat.mul_one, Nat.add_zero] at h3
        have e1 : encStr (l.map bl).toArray[j]! = .string l[j] := by
          rw [getElem!_pos _ j hj]
          simp only [List.getElem_toArray, List.getElem_map]
          show Value.string (lb (bl l[j])) = _
          rw [lb_bl]
        rw [e1]; exact h3
    have hb := Any.slices_Sort_string lays190 (ρ.t 0).blk (ρ.t 0).start cap (l.map bl) w hH (lt_of_heap hc) (by simp; omega)
    change Calls Try.prog 155 _ _ _ at hb
    refine hb.mono ?_
    rintro e' w' ⟨rfl, n, os, rfl⟩
    have hsl : (sortL (l.map bl)).length = l.length := by unfold sortL; rw [List.length_mergeSort]; simp
    have hww := sort_worldS (ρ.t 0).blk (ρ.t 0).start n (l.map bl).toArray (sortL (l.map bl)).toArray hH (by simp [hsl])
    rw [show ((l.map bl).mergeSort fun x y => decide (x ≤ y)) = sortL (l.map bl) from rfl, hww]
    have hnl : ((sortL (l.map bl)).toArray.map encStr).toList.length = l.length := by simp [hsl]
    have hcell : ∀ (k : Nat) (x : List UInt8), (sortL (l.map bl))[k]? = some x → ((sortL (l.map bl)).toArray.map encStr).toList[k]? = some (.string (lb x)) := by
      intro k x hx
      simp only [Array.toList_map, List.getElem?_map, hx]
      rfl
    have hlay := rel_lay hrel (id := 0) (s := 1) (xs := l.map nav) (ys := (sortS l).map nav) (p := 0) (news := ((sortL (l.map bl)).toArray.map encStr).toList) rfl (Nat.zero_le _)
      (by rw [List.length_map, sortS, List.length_map, hsl]; omega) (by rw [List.length_map, sortS, List.length_map, hsl, hnl]; omega) (fun u hu => ?_) (fun k y hy => ?_)
    · rw [Nat.zero_mul, Nat.add_zero, List.take_zero, List.nil_append, Nat.zero_add, List.drop_of_length_le (by simp [sortS, hsl]), List.append_nil] at hlay
      have h2 := rel_aheadS hlay.2 n
      have h3 := rel_growS h2.2 os.toList
      exact ⟨ρ, _, (hlay.1.trans' h2.1).trans' h3.1, h3.2, .junk, h, Val.junk⟩
    · obtain ⟨i, hi, rfl⟩ := List.getElem_of_mem hu
      simp
      rfl
    · rw [sortS, List.getElem?_map, List.getElem?_map] at hy
      obtain ⟨x', hx', rfl⟩ := Option.map_eq_some_iff.1 hy
      obtain ⟨x, hx, rfl⟩ := Option.map_eq_some_iff.1 hx'
      refine ⟨[.string (lb x)], ⟨⟨1, rfl⟩, trivial⟩, rfl, fun j u hu => ?_⟩
      match j, hu with
      | 0, hu => simp at hu; subst hu; rw [Nat.mul_one, Nat.add_zero]; exact hcell k x hx
      | j + 1, hu => simp at hu
end
end Go.Proofs.Ytjdbmfipciadfaa.A
namespace Go.Proofs.Ytjdbmfipciadfaa.A
open Go Go.Pt Go.Proofs
theorem f155_none (K E : AV → List Ent → Prop) (h : K .junk [.vec 1 []]) : CallA Try.prog 155 [.vs 0 1 0 0 0] [.vec 1 []] K E := by
  refine ⟨⟨_, _, Try.func155, rfl, rfl⟩, fun ρ w vs hrel hvs => ?_⟩
  match vs, hvs with
  | [v], ⟨hv, _⟩ =>
    obtain ⟨_, ad, len, cap, rfl, hlen, hcap, _⟩ := val_vs hv
    have h0 : len = 0 := by omega
    subst h0
    have hb := Any.slices_Sort_string_none lays190 ad cap w
    change Calls Try.prog 155 _ _ _ at hb
    refine hb.mono ?_
    rintro e' w' ⟨rfl, rfl⟩
    exact ⟨ρ, _, Stp.refl _ _ _, hrel, .junk, h, Val.junk⟩
theorem f155_call (l : List ByteArray) (hl : l.length < 2 ^ 42) (q : Int) (hq : q = l.length) (K E : AV → List Ent → Prop) (h : K .junk [.vec 1 ((sortS l).map nav)]) : CallA Try.prog 155 [.vs 0 1 0 q q] [.vec 1 (l.map nav)] K E := by
  by_cases hne : l = []
  · subst hne
    simp only [List.length_nil] at hq
    have hq0 : q = 0 := by omega
    subst hq0
    exact f155_none K E (by rw [show sortS [] = [] from by simp [sortS, sortL]] at h; exact h)
  · exact f155_some l hl hne q hq K E h
def NamesOk (es : List (AV × AV)) (ks : List ByteArray) : Prop := es.map Prod.fst = ks.map nav ∧ ks.length < 2 ^ 42
theorem sortS_perm {l k : List ByteArray} (h : l.Perm k) : sortS l = sortS k := by
  have total : ∀ a b : List UInt8, (decide (a ≤ b) || decide (b ≤ a)) = true := fun a b => by
    rw [Bool.or_eq_true, decide_eq_true_eq, decide_eq_true_eq]; exact List.le_total a b
  have trans : ∀ a b c : List UInt8, decide (a ≤ b) = true → decide (b ≤ c) = true → decide (a ≤ c) = true := fun a b c h1 h2 => by
    rw [decide_eq_true_eq] at *; exact List.le_trans h1 h2
  unfold sortS sortL
  congr 1
  refine List.Perm.eq_of_pairwise (le := fun a b => decide (a ≤ b) = true) (fun a b _ _ h3 h4 => ?_) (List.pairwise_mergeSort (le := fun x y => decide (x ≤ y)) trans total _) (List.pairwise_mergeSort (le := fun x y => decide (x ≤ y)) trans total _)
    (((List.mergeSort_perm _ _).trans (h.map bl)).trans (List.mergeSort_perm _ _).symm)
  rw [decide_eq_true_eq] at h3 h4
  exact List.le_antisymm h3 h4
theorem sortS_length (l : List ByteArray) : (sortS l).length = l.length := by simp [sortS, sortL]
noncomputable def namesS (es : List (AV × AV)) : Option (List AV) :=
  @dite _ (∃ ks, NamesOk es ks) (Classical.propDecidable _) (fun h => some ((sortS (Classical.choose h)).map nav)) fun _ => none
theorem nav_inj {a b : List ByteArray} (h : a.map nav = b.map nav) : a = b := by
  have := congrArg (List.map unnav) h
  rw [List.map_map, List.map_map, show unnav ∘ nav = id from rfl, List.map_id, List.map_id] at this
  exact this
theorem namesS_is {es : List (AV × AV)} {ks : List ByteArray} (h : NamesOk es ks) : namesS es = some ((sortS ks).map nav) := by
  unfold namesS
  have hx : ∃ ks, NamesOk es ks := ⟨ks, h⟩
  rw [dif_pos hx]
  have h2 := Classical.choose_spec hx
  rw [nav_inj (h2.1.symm.trans h.1)]
set_option maxHeartbeats 8000000 in
set_option maxRecDepth 100000 in
theorem f135_row {g : Nat} (hg : Names1 g) (es : List (AV × AV)) (ks0 : List ByteArray) (hk : NamesOk es ks0) (K E : AV → List Ent → Prop)
    (h : ∀ q : Int, q = ks0.length → K (.vs 2 1 0 q q) [.var [.mp 1], .mp es, .vec 1 ((sortS ks0).map nav)]) :
    CallA Try.prog 135 [.func g [.ptr 0 0]] [.var [.mp 1], .mp es] K E := by
  refine call_fn (n₀ := 2) tabS_ok [2] Try.func135 rfl rfl rfl rfl (by decide) ?_
  intro J hJ
  cbv
  refine call_in hJ [1, 0] (by decide) rfl rfl rfl (f154_call hg es ks0 hk.1 hk.2 _ _ fun l q hq hl => ?_)
  have hlen : l.length < 2 ^ 42 := by rw [hl.length_eq]; exact hk.2
  have hs := f155_call l hlen q hq
  have hh := h q (by rw [hq, hl.length_eq])
  rw [← sortS_perm hl] at hh
  generalize l.map nav = L at hs ⊢
  generalize (sortS l).map nav = M at hs hh
  cbv
  refine call_in hJ [2] (by decide) rfl rfl rfl (hs _ _ ?_)
  cbv
  exact hh
inductive F135R where
  | v0 (y0 : List AV) (y1 : List (AV × AV))
def F135R.av : F135R → AV
  | .v0 y0 _ => .sl 1 y0 .no
def F135R.hp : F135R → List Ent
  | .v0 _ y1 => [.var [.mp 1], .mp y1, .dead]
noncomputable def f135 (_o : Ops) (_fuel : Nat) (a0 : List (AV × AV)) : Option F135R := (namesS a0).map fun l => .v0 l a0
theorem f135_call (o : Ops) (_ho : o = stdOps) (fuel : Nat) (a0 : List (AV × AV)) {R : F135R} (H : f135 o fuel a0 = some R) (K : AV → List Ent → Prop) (E : AV → List Ent → Prop) (h : K R.av R.hp) : CallA Try.prog 135 [.func 156 [.ptr 0 0]] [.var [.mp 1], .mp a0] K E := by
  unfold f135 at H
  obtain ⟨l, hl, rfl⟩ := Option.map_eq_some_iff.1 H
  unfold namesS at hl
  split at hl
  case isFalse => exact nomatch hl
  rename_i hx
  simp only [Option.some.injEq] at hl
  subst hl
  have hk := Classical.choose_spec hx
  generalize Classical.choose hx = ks at hk h ⊢
  refine call_told (f135_row keys_156 a0 ks hk (fun r τ => r = .vs 2 1 0 ks.length ks.length ∧ τ = [.var [.mp 1], .mp a0, .vec 1 ((sortS ks).map nav)]) E fun q hq => by subst hq; exact ⟨rfl, rfl⟩) ?_
  rintro r τ ⟨rfl, rfl⟩
  refine told_sl rfl (Int.le_refl 0) (by simp [sortS_length]) ?_
  rw [show ((((sortS ks).map nav).take (0 + (ks.length : Int)).toNat).drop (0 : Int).toNat) = (sortS ks).map nav from by
    rw [List.take_of_length_le (by simp [sortS_length])]; rfl]
  exact h
end Go.Proofs.Ytjdbmfipciadfaa.A
namespace Go.Proofs.Ytjdbmfipciadfaa.A
open Go Go.Pt
section
variable {α : Type}
theorem ifB_if {b : Bool} {x y : Option α} : ifB b x y = if b = true then x else y := by cases b <;> rfl
theorem lss_t {i n : Nat} (h : i < n) : stdOps.cmp .lss (i : Int) (n : Int) = true := by simp [stdOps]; omega
theorem lss_f {i n : Nat} (h : ¬ i < n) : stdOps.cmp .lss (i : Int) (n : Int) = false := by simp [stdOps]; omega
theorem add1 {i : Nat} (h : i < 2 ^ 60) : stdOps.ar .add .i64 (i : Int) 1 = ((i + 1 : Nat) : Int) := by simp only [stdOps]; rw [wr_i64 (by omega) (by omega)]; omega
theorem eql_is (a b : Int) : stdOps.cmp .eql a b = decide (a = b) := by
  by_cases h : a = b <;> simp [stdOps, h]
theorem len_is (l : List AV) : stdOps.len l = (l.length : Int) := rfl
theorem isNil_same {l : List AV} {n : Bool} {k : Bool → Option α} {r : Option α} (h0 : l = [] → k true = r) (h1 : k n = r) (h2 : l = [] → k false = r) : isNil l n k = r := by
  unfold isNil
  by_cases e : l = []
  · rw [if_pos e, if_pos ((h0 e).trans (h2 e).symm)]; exact h0 e
  · rw [if_neg e]; exact h1
theorem seq_is (a b : ByteArray) : stdOps.seq a b = decide (a = b) := by
  show (a.data == b.data) = decide (a = b)
  by_cases h : a = b
  · subst h; simp
  · have : ¬ a.data = b.data := fun e => h (ByteArray.ext e)
    simp [h, this]
end
instance : LawfulBEq ByteArray where
  eq_of_beq {a b} h := by
    have h' : (a.data == b.data) = true := h
    exact ByteArray.ext (by simpa using h')
  rfl {a} := by
    show (a.data == a.data) = true
    simp
def nlt (a b : ByteArray) : Prop := bl a < bl b
theorem toList_bl (b : ByteArray) : b.toList = bl b := by
  exact Go.ByteArray.toList_eq b
theorem scmp_is (a b : ByteArray) : stdOps.scmp .lss a b = decide (bl a < bl b) := by
  show Op.bytesLess a.toList b.toList = _
  rw [Go.Proofs.bytesLess_eq, toList_bl, toList_bl]
theorem bl_inj {a b : ByteArray} (h : bl a = bl b) : a = b := by rw [← lb_bl a, ← lb_bl b, h]
structure Pw where
  n : ByteArray
  i : Int
  b : List AV
def ov (b : List AV) (i : Nat) (x : List AV) : List AV := b.take i ++ x ++ b.drop (i + x.length)
theorem ov_length {b : List AV} {i : Nat} {x : List AV} (h : i ≤ b.length) : (ov b i x).length = max b.length (i + x.length) := by
  unfold ov; simp; omega
def seen1 (n : ByteArray) (b : List AV) (p : Pw) : List AV := if p.n = n then ov b p.i.toNat p.b else b
def seen (P : List Pw) (n : ByteArray) (b : List AV) : List AV := P.foldl (seen1 n) b
def okW : List Pw → ByteArray → List AV → Prop
  | [], _, _ => True
  | p :: P, n, b => (p.n = n → 0 ≤ p.i ∧ p.i ≤ b.length) ∧ okW P n (seen1 n b p)
theorem seen1_le {n : ByteArray} {b : List AV} {p : Pw} (h : p.n = n → 0 ≤ p.i ∧ p.i ≤ b.length) : b.length ≤ (seen1 n b p).length := by
  unfold seen1
  split
  · rename_i e
    have := h e
    rw [ov_length (by omega)]; omega
  · exact Nat.le_refl _
theorem seen_le {n : ByteArray} : ∀ {P : List Pw} {b : List AV}, okW P n b → b.length ≤ (seen P n b).length
  | [], _, _ => Nat.le_refl _
  | _ :: _, _, h => Nat.le_trans (seen1_le h.1) (seen_le h.2)
theorem seen_append {P Q : List Pw} {n : ByteArray} {b : List AV} : seen (P ++ Q) n b = seen Q n (seen P n b) := List.foldl_append
theorem okW_append {n : ByteArray} : ∀ {P Q : List Pw} {b : List AV}, okW (P ++ Q) n b ↔ okW P n b ∧ okW Q n (seen P n b)
  | [], Q, b => by simp [okW, seen]
  | p :: P, Q, b => by
    have := okW_append (P := P) (Q := Q) (b := seen1 n b p) (n := n)
    simp only [List.cons_append, okW, this, and_assoc]
    rfl
theorem seen_none {n : ByteArray} : ∀ {P : List Pw} {b : List AV}, (∀ p ∈ P, p.n ≠ n) → seen P n b = b ∧ okW P n b
  | [], _, _ => ⟨rfl, trivial⟩
  | p :: P, b, h => by
    have h1 : seen1 n b p = b := if_neg (h p List.mem_cons_self)
    have h2 := seen_none (P := P) (b := b) (n := n) fun q hq => h q (List.mem_cons_of_mem _ hq)
    exact ⟨by show seen P n (seen1 n b p) = b; rw [h1]; exact h2.1, fun e => absurd e (h p List.mem_cons_self), by rw [h1]; exact h2.2⟩
structure Mo where
  L : List (ByteArray × List AV)
  P : List Pw
  most : Int
  down : Bool
def Mo.names (m : Mo) : List ByteArray := m.L.map Prod.fst
def Mo.get (m : Mo) (n : ByteArray) : Option (List AV) := (m.L.find? fun x => decide (x.1 = n)).map Prod.snd
def Mo.sure (m : Mo) (n : ByteArray) : List AV := (m.get n).getD []
def Mo.all (m : Mo) (n : ByteArray) : List AV := seen m.P n (m.sure n)
def Mo.used (m : Mo) : Nat := (m.L.map fun x => (seen m.P x.1 x.2).length).sum
def Mo.left (m : Mo) : Int := m.most - m.used
structure Iv (m : Mo) : Prop where
  m0 : 0 ≤ m.most
  m1 : m.most ≤ 4194304
  sorted : m.L.Pairwise fun a b => nlt a.1 b.1
  max : m.L.length ≤ 4096
  ok : ∀ x ∈ m.L, okW m.P x.1 x.2
  pn : ∀ p ∈ m.P, p.n ∈ m.names
  pb : ∀ p ∈ m.P, p.b.length ≤ 2 ^ 23 ∧ 0 < p.b.length
  left : (m.used : Int) ≤ m.most
theorem nlt_irrefl (a : ByteArray) : ¬ nlt a a := List.lt_irrefl _
theorem nlt_trans {a b c : ByteArray} (h : nlt a b) (h' : nlt b c) : nlt a c := List.lt_trans h h'
theorem sorted_nodup {L : List (ByteArray × List AV)} (h : L.Pairwise fun a b => nlt a.1 b.1) : (L.map Prod.fst).Nodup := by
  rw [List.nodup_iff_pairwise_ne, List.pairwise_map]
  refine h.imp ?_
  intro a b hab e
  rw [e] at hab
  exact nlt_irrefl _ hab
theorem Iv.nodup {m : Mo} (h : Iv m) : m.names.Nodup := sorted_nodup h.sorted
theorem find_of_mem {L : List (ByteArray × List AV)} : (L.map Prod.fst).Nodup → ∀ x ∈ L, (L.find? fun y => decide (y.1 = x.1)) = some x := by
  induction L with
  | nil => intro _ x hx; cases hx
  | cons y L ih =>
    intro hn x hx
    rw [List.map_cons, List.nodup_cons] at hn
    rcases List.mem_cons.1 hx with rfl | hx
    · simp
    · rw [List.find?_cons_of_neg (by
        intro e
        rw [decide_eq_true_eq] at e
        exact hn.1 (e ▸ List.mem_map_of_mem hx))]
      exact ih hn.2 x hx
theorem Mo.get_of {m : Mo} (hn : m.names.Nodup) {n : ByteArray} {b : List AV} (h : (n, b) ∈ m.L) : m.get n = some b := by
  unfold Mo.get
  rw [find_of_mem hn (n, b) h]; rfl
theorem Mo.sure_of {m : Mo} (hn : m.names.Nodup) {n : ByteArray} {b : List AV} (h : (n, b) ∈ m.L) : m.sure n = b := by
  unfold Mo.sure
  rw [Mo.get_of hn h]; rfl
theorem Mo.mem_sure {m : Mo} (hn : m.names.Nodup) {n : ByteArray} (h : n ∈ m.names) : (n, m.sure n) ∈ m.L := by
  obtain ⟨x, hx, rfl⟩ := List.mem_map.1 h
  rw [Mo.sure_of (b := x.2) hn hx]; exact hx
theorem sum_ge {β : Type} {f : β → Nat} {l : List β} {x : β} (h : x ∈ l) : f x ≤ (l.map f).sum := by
  induction l with
  | nil => cases h
  | cons y l ih =>
    rw [List.map_cons, List.sum_cons]
    rcases List.mem_cons.1 h with rfl | h
    · omega
    · have := ih h; omega
theorem Iv.seen_le {m : Mo} (h : Iv m) {x : ByteArray × List AV} (hx : x ∈ m.L) : (seen m.P x.1 x.2).length ≤ 2 ^ 22 := by
  have h1 := sum_ge (f := fun x : ByteArray × List AV => (seen m.P x.1 x.2).length) hx
  have h2 := h.left
  have h3 := h.m1
  simp only [Mo.used] at h2
  omega
theorem Iv.all_le {m : Mo} (h : Iv m) {n : ByteArray} (hn : n ∈ m.names) : (m.all n).length ≤ 2 ^ 22 := h.seen_le (Mo.mem_sure h.nodup hn)
theorem Iv.sure_le {m : Mo} (h : Iv m) {n : ByteArray} (hn : n ∈ m.names) : (m.sure n).length ≤ 2 ^ 22 :=
  Nat.le_trans (A.seen_le (h.ok _ (Mo.mem_sure h.nodup hn))) (h.all_le hn)
end Go.Proofs.Ytjdbmfipciadfaa.A
namespace Go.Proofs.Ytjdbmfipciadfaa.A
open Go Go.Pt
set_option maxHeartbeats 4000000
set_option maxRecDepth 100000
def sh3 {α : Type} (e : AV) (k : Int → Option α) : Option α := match e with | .int .i64 x0 => k x0 | _ => none
theorem sh3_go {α : Type} {e : AV} {k : Int → Option α} {r : α} {G : AV → Prop} (H : sh3 e k = some r) (h : ∀ (x0 : Int), k x0 = some r → G (.int .i64 x0)) : G e := by
  unfold sh3 at H
  split at H
  · exact h _ H
  · exact nomatch H
theorem sh3_get {α : Type} {x : Option AV} {k : Int → Option α} {r : α} {G : AV → Prop} (H : getA x (fun e => sh3 e k) = some r) (h : ∀ (x0 : Int), x = some (.int .i64 x0) → k x0 = some r → G (.int .i64 x0)) : ∀ e, x = some e → G e := fun e he => by
  have H2 : sh3 e k = some r := by rw [he] at H; exact H
  unfold sh3 at H2
  split at H2
  · exact h _ he H2
  · exact nomatch H2
theorem sh3_find {α : Type} {x : Option AV} {k : Int → Option α} {z : Option α} {r : α} {G1 : AV → Prop} {G2 : Prop} (H : findA x (fun e => sh3 e k) z = some r) (h1 : ∀ (x0 : Int), k x0 = some r → G1 (.int .i64 x0)) (h2 : z = some r → G2) : (∀ e, x = some e → G1 e) ∧ (x = none → G2) :=
  findA_go H (fun _ He => sh3_go He h1) h2
def sh5 {α : Type} (e : AV) (k : Int → Option α) : Option α := match e with | .int .u8 x0 => k x0 | _ => none
theorem sh5_go {α : Type} {e : AV} {k : Int → Option α} {r : α} {G : AV → Prop} (H : sh5 e k = some r) (h : ∀ (x0 : Int), k x0 = some r → G (.int .u8 x0)) : G e := by
  unfold sh5 at H
  split at H
  · exact h _ H
  · exact nomatch H
theorem sh5_get {α : Type} {x : Option AV} {k : Int → Option α} {r : α} {G : AV → Prop} (H : getA x (fun e => sh5 e k) = some r) (h : ∀ (x0 : Int), x = some (.int .u8 x0) → k x0 = some r → G (.int .u8 x0)) : ∀ e, x = some e → G e := fun e he => by
  have H2 : sh5 e k = some r := by rw [he] at H; exact H
  unfold sh5 at H2
  split at H2
  · exact h _ he H2
  · exact nomatch H2
theorem sh5_find {α : Type} {x : Option AV} {k : Int → Option α} {z : Option α} {r : α} {G1 : AV → Prop} {G2 : Prop} (H : findA x (fun e => sh5 e k) z = some r) (h1 : ∀ (x0 : Int), k x0 = some r → G1 (.int .u8 x0)) (h2 : z = some r → G2) : (∀ e, x = some e → G1 e) ∧ (x = none → G2) :=
  findA_go H (fun _ He => sh5_go He h1) h2
def sh9 {α : Type} (e : AV) (k : ByteArray → Option α) : Option α := match e with | .str x0 => k x0 | _ => none
theorem sh9_go {α : Type} {e : AV} {k : ByteArray → Option α} {r : α} {G : AV → Prop} (H : sh9 e k = some r) (h : ∀ (x0 : ByteArray), k x0 = some r → G (.str x0)) : G e := by
  unfold sh9 at H
  split at H
  · exact h _ H
  · exact nomatch H
theorem sh9_get {α : Type} {x : Option AV} {k : ByteArray → Option α} {r : α} {G : AV → Prop} (H : getA x (fun e => sh9 e k) = some r) (h : ∀ (x0 : ByteArray), x = some (.str x0) → k x0 = some r → G (.str x0)) : ∀ e, x = some e → G e := fun e he => by
  have H2 : sh9 e k = some r := by rw [he] at H; exact H
  unfold sh9 at H2
  split at H2
  · exact h _ he H2
  · exact nomatch H2
theorem sh9_find {α : Type} {x : Option AV} {k : ByteArray → Option α} {z : Option α} {r : α} {G1 : AV → Prop} {G2 : Prop} (H : findA x (fun e => sh9 e k) z = some r) (h1 : ∀ (x0 : ByteArray), k x0 = some r → G1 (.str x0)) (h2 : z = some r → G2) : (∀ e, x = some e → G1 e) ∧ (x = none → G2) :=
  findA_go H (fun _ He => sh9_go He h1) h2
def sh69 {α : Type} (e : AV) (k : List AV → Option α) : Option α := match e with | .sl 1 x0 .no => k x0 | _ => none
theorem sh69_go {α : Type} {e : AV} {k : List AV → Option α} {r : α} {G : AV → Prop} (H : sh69 e k = some r) (h : ∀ (x0 : List AV), k x0 = some r → G (.sl 1 x0 .no)) : G e := by
  unfold sh69 at H
  split at H
  · exact h _ H
  · exact nomatch H
theorem sh69_get {α : Type} {x : Option AV} {k : List AV → Option α} {r : α} {G : AV → Prop} (H : getA x (fun e => sh69 e k) = some r) (h : ∀ (x0 : List AV), x = some (.sl 1 x0 .no) → k x0 = some r → G (.sl 1 x0 .no)) : ∀ e, x = some e → G e := fun e he => by
  have H2 : sh69 e k = some r := by rw [he] at H; exact H
  unfold sh69 at H2
  split at H2
  · exact h _ he H2
  · exact nomatch H2
theorem sh69_find {α : Type} {x : Option AV} {k : List AV → Option α} {z : Option α} {r : α} {G1 : AV → Prop} {G2 : Prop} (H : findA x (fun e => sh69 e k) z = some r) (h1 : ∀ (x0 : List AV), k x0 = some r → G1 (.sl 1 x0 .no)) (h2 : z = some r → G2) : (∀ e, x = some e → G1 e) ∧ (x = none → G2) :=
  findA_go H (fun _ He => sh69_go He h1) h2
def sh71 {α : Type} (e : AV) (k : Int → ByteArray → ByteArray → Int → Int → List AV → Option α) : Option α := match e with | .agg [.int .i64 x0, .str x1, .str x2, .int .i64 x3, .int .i64 x4, .sl 1 x5 .no] => k x0 x1 x2 x3 x4 x5 | _ => none
theorem sh71_go {α : Type} {e : AV} {k : Int → ByteArray → ByteArray → Int → Int → List AV → Option α} {r : α} {G : AV → Prop} (H : sh71 e k = some r) (h : ∀ (x0 : Int) (x1 : ByteArray) (x2 : ByteArray) (x3 : Int) (x4 : Int) (x5 : List AV), k x0 x1 x2 x3 x4 x5 = some r → G (.agg [.int .i64 x0, .str x1, .str x2, .int .i64 x3, .int .i64 x4, .sl 1 x5 .no])) : G e := by
  unfold sh71 at H
  split at H
  · exact h _ _ _ _ _ _ H
  · exact nomatch H
theorem sh71_get {α : Type} {x : Option AV} {k : Int → ByteArray → ByteArray → Int → Int → List AV → Option α} {r : α} {G : AV → Prop} (H : getA x (fun e => sh71 e k) = some r) (h : ∀ (x0 : Int) (x1 : ByteArray) (x2 : ByteArray) (x3 : Int) (x4 : Int) (x5 : List AV), x = some (.agg [.int .i64 x0, .str x1, .str x2, .int .i64 x3, .int .i64 x4, .sl 1 x5 .no]) → k x0 x1 x2 x3 x4 x5 = some r → G (.agg [.int .i64 x0, .str x1, .str x2, .int .i64 x3, .int .i64 x4, .sl 1 x5 .no])) : ∀ e, x = some e → G e := fun e he => by
  have H2 : sh71 e k = some r := by rw [he] at H; exact H
  unfold sh71 at H2
  split at H2
  · exact h _ _ _ _ _ _ he H2
  · exact nomatch H2
theorem sh71_find {α : Type} {x : Option AV} {k : Int → ByteArray → ByteArray → Int → Int → List AV → Option α} {z : Option α} {r : α} {G1 : AV → Prop} {G2 : Prop} (H : findA x (fun e => sh71 e k) z = some r) (h1 : ∀ (x0 : Int) (x1 : ByteArray) (x2 : ByteArray) (x3 : Int) (x4 : Int) (x5 : List AV), k x0 x1 x2 x3 x4 x5 = some r → G1 (.agg [.int .i64 x0, .str x1, .str x2, .int .i64 x3, .int .i64 x4, .sl 1 x5 .no])) (h2 : z = some r → G2) : (∀ e, x = some e → G1 e) ∧ (x = none → G2) :=
  findA_go H (fun _ He => sh71_go He h1) h2
def sh142 {α : Type} (e : AV) (k : Int → Option α) : Option α := match e with | .fp 0 x0 0 => k x0 | _ => none
theorem sh142_go {α : Type} {e : AV} {k : Int → Option α} {r : α} {G : AV → Prop} (H : sh142 e k = some r) (h : ∀ (x0 : Int), k x0 = some r → G (.fp 0 x0 0)) : G e := by
  unfold sh142 at H
  split at H
  · exact h _ H
  · exact nomatch H
theorem sh142_get {α : Type} {x : Option AV} {k : Int → Option α} {r : α} {G : AV → Prop} (H : getA x (fun e => sh142 e k) = some r) (h : ∀ (x0 : Int), x = some (.fp 0 x0 0) → k x0 = some r → G (.fp 0 x0 0)) : ∀ e, x = some e → G e := fun e he => by
  have H2 : sh142 e k = some r := by rw [he] at H; exact H
  unfold sh142 at H2
  split at H2
  · exact h _ he H2
  · exact nomatch H2
theorem sh142_find {α : Type} {x : Option AV} {k : Int → Option α} {z : Option α} {r : α} {G1 : AV → Prop} {G2 : Prop} (H : findA x (fun e => sh142 e k) z = some r) (h1 : ∀ (x0 : Int), k x0 = some r → G1 (.fp 0 x0 0)) (h2 : z = some r → G2) : (∀ e, x = some e → G1 e) ∧ (x = none → G2) :=
  findA_go H (fun _ He => sh142_go He h1) h2
def sh147 {α : Type} (e : AV) (k : List AV → Option α) : Option α := match e with | .agg [.sl 1 x0 .no] => k x0 | _ => none
theorem sh147_go {α : Type} {e : AV} {k : List AV → Option α} {r : α} {G : AV → Prop} (H : sh147 e k = some r) (h : ∀ (x0 : List AV), k x0 = some r → G (.agg [.sl 1 x0 .no])) : G e := by
  unfold sh147 at H
  split at H
  · exact h _ H
  · exact nomatch H
theorem sh147_get {α : Type} {x : Option AV} {k : List AV → Option α} {r : α} {G : AV → Prop} (H : getA x (fun e => sh147 e k) = some r) (h : ∀ (x0 : List AV), x = some (.agg [.sl 1 x0 .no]) → k x0 = some r → G (.agg [.sl 1 x0 .no])) : ∀ e, x = some e → G e := fun e he => by
  have H2 : sh147 e k = some r := by rw [he] at H; exact H
  unfold sh147 at H2
  split at H2
  · exact h _ he H2
  · exact nomatch H2
theorem sh147_find {α : Type} {x : Option AV} {k : List AV → Option α} {z : Option α} {r : α} {G1 : AV → Prop} {G2 : Prop} (H : findA x (fun e => sh147 e k) z = some r) (h1 : ∀ (x0 : List AV), k x0 = some r → G1 (.agg [.sl 1 x0 .no])) (h2 : z = some r → G2) : (∀ e, x = some e → G1 e) ∧ (x = none → G2) :=
  findA_go H (fun _ He => sh147_go He h1) h2
def sh150 {α : Type} (e : AV) (k : Int → Int → List AV → Option α) : Option α := match e with | .agg [.fp 0 x0 0, .int .i64 x1, .sl 1 x2 .no] => k x0 x1 x2 | _ => none
theorem sh150_go {α : Type} {e : AV} {k : Int → Int → List AV → Option α} {r : α} {G : AV → Prop} (H : sh150 e k = some r) (h : ∀ (x0 : Int) (x1 : Int) (x2 : List AV), k x0 x1 x2 = some r → G (.agg [.fp 0 x0 0, .int .i64 x1, .sl 1 x2 .no])) : G e := by
  unfold sh150 at H
  split at H
  · exact h _ _ _ H
  · exact nomatch H
theorem sh150_get {α : Type} {x : Option AV} {k : Int → Int → List AV → Option α} {r : α} {G : AV → Prop} (H : getA x (fun e => sh150 e k) = some r) (h : ∀ (x0 : Int) (x1 : Int) (x2 : List AV), x = some (.agg [.fp 0 x0 0, .int .i64 x1, .sl 1 x2 .no]) → k x0 x1 x2 = some r → G (.agg [.fp 0 x0 0, .int .i64 x1, .sl 1 x2 .no])) : ∀ e, x = some e → G e := fun e he => by
  have H2 : sh150 e k = some r := by rw [he] at H; exact H
  unfold sh150 at H2
  split at H2
  · exact h _ _ _ he H2
  · exact nomatch H2
theorem sh150_find {α : Type} {x : Option AV} {k : Int → Int → List AV → Option α} {z : Option α} {r : α} {G1 : AV → Prop} {G2 : Prop} (H : findA x (fun e => sh150 e k) z = some r) (h1 : ∀ (x0 : Int) (x1 : Int) (x2 : List AV), k x0 x1 x2 = some r → G1 (.agg [.fp 0 x0 0, .int .i64 x1, .sl 1 x2 .no])) (h2 : z = some r → G2) : (∀ e, x = some e → G1 e) ∧ (x = none → G2) :=
  findA_go H (fun _ He => sh150_go He h1) h2
def sh158 {α : Type} (e : AV) (k : ByteArray → Int → List AV → Option α) : Option α := match e with | .agg [.str x0, .int .i64 x1, .sl 1 x2 .no] => k x0 x1 x2 | _ => none
theorem sh158_go {α : Type} {e : AV} {k : ByteArray → Int → List AV → Option α} {r : α} {G : AV → Prop} (H : sh158 e k = some r) (h : ∀ (x0 : ByteArray) (x1 : Int) (x2 : List AV), k x0 x1 x2 = some r → G (.agg [.str x0, .int .i64 x1, .sl 1 x2 .no])) : G e := by
  unfold sh158 at H
  split at H
  · exact h _ _ _ H
  · exact nomatch H
theorem sh158_get {α : Type} {x : Option AV} {k : ByteArray → Int → List AV → Option α} {r : α} {G : AV → Prop} (H : getA x (fun e => sh158 e k) = some r) (h : ∀ (x0 : ByteArray) (x1 : Int) (x2 : List AV), x = some (.agg [.str x0, .int .i64 x1, .sl 1 x2 .no]) → k x0 x1 x2 = some r → G (.agg [.str x0, .int .i64 x1, .sl 1 x2 .no])) : ∀ e, x = some e → G e := fun e he => by
  have H2 : sh158 e k = some r := by rw [he] at H; exact H
  unfold sh158 at H2
  split at H2
  · exact h _ _ _ he H2
  · exact nomatch H2
theorem sh158_find {α : Type} {x : Option AV} {k : ByteArray → Int → List AV → Option α} {z : Option α} {r : α} {G1 : AV → Prop} {G2 : Prop} (H : findA x (fun e => sh158 e k) z = some r) (h1 : ∀ (x0 : ByteArray) (x1 : Int) (x2 : List AV), k x0 x1 x2 = some r → G1 (.agg [.str x0, .int .i64 x1, .sl 1 x2 .no])) (h2 : z = some r → G2) : (∀ e, x = some e → G1 e) ∧ (x = none → G2) :=
  findA_go H (fun _ He => sh158_go He h1) h2
def sh164 {α : Type} (e : AV) (k : ByteArray → List AV → Option α) : Option α := match e with | .agg [.str x0, .sl 1 x1 .no] => k x0 x1 | _ => none
theorem sh164_go {α : Type} {e : AV} {k : ByteArray → List AV → Option α} {r : α} {G : AV → Prop} (H : sh164 e k = some r) (h : ∀ (x0 : ByteArray) (x1 : List AV), k x0 x1 = some r → G (.agg [.str x0, .sl 1 x1 .no])) : G e := by
  unfold sh164 at H
  split at H
  · exact h _ _ H
  · exact nomatch H
theorem sh164_get {α : Type} {x : Option AV} {k : ByteArray → List AV → Option α} {r : α} {G : AV → Prop} (H : getA x (fun e => sh164 e k) = some r) (h : ∀ (x0 : ByteArray) (x1 : List AV), x = some (.agg [.str x0, .sl 1 x1 .no]) → k x0 x1 = some r → G (.agg [.str x0, .sl 1 x1 .no])) : ∀ e, x = some e → G e := fun e he => by
  have H2 : sh164 e k = some r := by rw [he] at H; exact H
  unfold sh164 at H2
  split at H2
  · exact h _ _ he H2
  · exact nomatch H2
theorem sh164_find {α : Type} {x : Option AV} {k : ByteArray → List AV → Option α} {z : Option α} {r : α} {G1 : AV → Prop} {G2 : Prop} (H : findA x (fun e => sh164 e k) z = some r) (h1 : ∀ (x0 : ByteArray) (x1 : List AV), k x0 x1 = some r → G1 (.agg [.str x0, .sl 1 x1 .no])) (h2 : z = some r → G2) : (∀ e, x = some e → G1 e) ∧ (x = none → G2) :=
  findA_go H (fun _ He => sh164_go He h1) h2
end Go.Proofs.Ytjdbmfipciadfaa.A
namespace Go.Proofs.Ytjdbmfipciadfaa.A
open Go Go.Pt
set_option maxHeartbeats 4000000
set_option maxRecDepth 100000
inductive F48R where
  | v0
  | v1 (y0 : List (AV × AV)) (y1 : List AV)
def F48R.av : F48R → AV
  | .v0  => .tup [.nilp, .int .i64 1]
  | .v1 _ _ => .tup [.ptr 1 0, .int .i64 0]
def F48R.hp (a0 : Int) (a1 : List AV) : F48R → List Ent
  | .v0  => [.fam 0 a1]
  | .v1 y0 y1 => [.fam 0 a1, .var [.int .i64 a0, .mp 2, .vs 3 3 0 0 0, .bool false], .mp y0, .vec 3 y1]
noncomputable def f48 (o : Ops) (_fuel : Nat) (a0 : Int) (_a1 : List AV) : Option F48R :=
  ifB (o.pick (o.cmp .lss a0 0) true (o.cmp .gtr a0 4194304))
  (some (.v0 ))
  (some (.v1 [] []))
theorem f48_call (o : Ops) (ho : o = stdOps) (fuel : Nat) (a0 : Int) (a1 : List AV) {R : F48R} (H : f48 o fuel a0 a1 = some R) (K : AV → List Ent → Prop) (E : AV → List Ent → Prop) (h : K R.av (F48R.hp a0 a1 R)) : CallA Try.prog 48 [.int .i64 a0] [.fam 0 a1] K E := by
  refine call_wk fun K' hK => ?_
  refine call_keep (n₀ := 1) tab_ok Try.func48 rfl rfl rfl rfl ?_
  intro J hJ
  obtain rfl : o = J.o := by rw [ho, hJ]; rfl
  unfold f48 at H
  cbv
  repeat' (first
    | ((with_reducible refine awp_go2 ?_); cbv)
    | with_reducible exact id
    | (refine KeepQ.tn _ (by first | exact .inl rfl | exact .inr rfl) (Turn.at 3 (turn_nilrh 2 2 3 rfl rfl (leN_t rfl)) rfl) [2, 1, 3] (by decide) ?_; cbv; cases H; refine hK _ _ _ _ ?_ ?_ rfl h <;> cbv)
    | (refine KeepQ.mk [] (by decide) ?_; cbv; cases H; refine hK _ _ _ _ ?_ ?_ rfl h <;> cbv)
    | (refine ifB_go H ?_ ?_ <;> clear H <;> intro hh H)
    | with_reducible refine And.intro ?_ ?_)
inductive F96R where
  | v0 (y0 : Bool)
def F96R.av : F96R → AV
  | .v0 y0 => .bool y0
def F96R.hp (a0 : List AV) (a1 a2 a3 a4 : Int) (a5 : Bool) (a6 : List (AV × AV)) (a7 : List AV) : F96R → List Ent
  | .v0 _ => [.fam 0 a0, .var [.int .i64 a1, .mp 2, .vs 3 3 a2 a3 a4, .bool a5], .mp a6, .vec 3 a7]
noncomputable def f96 (o : Ops) (_fuel : Nat) (_a0 : List AV) (_a1 _a2 _a3 _a4 : Int) (_a5 : Bool) (_a6 : List (AV × AV)) (_a7 : List AV) : Option F96R :=
  some (.v0 (o.pick false true false))
theorem f96_call (o : Ops) (ho : o = stdOps) (fuel : Nat) (a0 : List AV) (a1 a2 a3 a4 : Int) (a5 : Bool) (a6 : List (AV × AV)) (a7 : List AV) {R : F96R} (H : f96 o fuel a0 a1 a2 a3 a4 a5 a6 a7 = some R) (K : AV → List Ent → Prop) (E : AV → List Ent → Prop) (h : K R.av (F96R.hp a0 a1 a2 a3 a4 a5 a6 a7 R)) : CallA Try.prog 96 [.ptr 1 0] [.fam 0 a0, .var [.int .i64 a1, .mp 2, .vs 3 3 a2 a3 a4, .bool a5], .mp a6, .vec 3 a7] K E := by
  refine call_wk fun K' hK => ?_
  refine call_keep (n₀ := 4) tab_ok Try.func96 rfl rfl rfl rfl ?_
  intro J hJ
  obtain rfl : o = J.o := by rw [ho, hJ]; rfl
  unfold f96 at H
  cbv
  repeat' (first
    | with_reducible exact id
    | (refine KeepQ.mk [] (by decide) ?_; cbv; cases H; refine hK _ _ _ _ ?_ ?_ rfl h <;> cbv)
    | with_reducible refine And.intro ?_ ?_)
inductive F97R where
  | v0 (y0 : Int)
def F97R.av : F97R → AV
  | .v0 y0 => .int .i64 y0
def F97R.hp (a0 : List AV) (a1 a2 a3 a4 : Int) (a5 : Bool) (a6 : List (AV × AV)) (a7 : List AV) : F97R → List Ent
  | .v0 _ => [.fam 0 a0, .var [.int .i64 a1, .mp 2, .vs 3 3 a2 a3 a4, .bool a5], .mp a6, .vec 3 a7]
noncomputable def f97 (o : Ops) (fuel : Nat) (a0 : List AV) (a1 a2 a3 a4 : Int) (a5 : Bool) (a6 : List (AV × AV)) (a7 : List AV) : Option F97R :=
  bindR (f96 o fuel a0 a1 a2 a3 a4 a5 a6 a7) fun r => match r with
  | .v0 r8 => ifB r8
    (some (.v0 2))
    (ifB a5
     (some (.v0 32))
     (some (.v0 0)))
theorem f97_call (o : Ops) (ho : o = stdOps) (fuel : Nat) (a0 : List AV) (a1 a2 a3 a4 : Int) (a5 : Bool) (a6 : List (AV × AV)) (a7 : List AV) {R : F97R} (H : f97 o fuel a0 a1 a2 a3 a4 a5 a6 a7 = some R) (K : AV → List Ent → Prop) (E : AV → List Ent → Prop) (h : K R.av (F97R.hp a0 a1 a2 a3 a4 a5 a6 a7 R)) : CallA Try.prog 97 [.ptr 1 0] [.fam 0 a0, .var [.int .i64 a1, .mp 2, .vs 3 3 a2 a3 a4, .bool a5], .mp a6, .vec 3 a7] K E := by
  refine call_wk fun K' hK => ?_
  refine call_keep (n₀ := 4) tab_ok Try.func97 rfl rfl rfl rfl ?_
  intro J hJ
  obtain rfl : o = J.o := by rw [ho, hJ]; rfl
  unfold f97 at H
  cbv
  repeat' (first
    | ((with_reducible refine awp_go2 ?_); cbv)
    | (refine KeepQ.mk [] (by decide) ?_; cbv; cases H; refine hK _ _ _ _ ?_ ?_ rfl h <;> cbv)
    | (refine ifB_go H ?_ ?_ <;> clear H <;> intro hh H)
    | (obtain ⟨R, hR, H2⟩ := bindR_go H; refine call_in hJ [0, 1, 2, 3] (by decide) rfl rfl rfl (f96_call _ ho _ _ _ _ _ _ _ _ _ hR _ _ ?_); clear H hR; rcases R with ⟨_⟩; all_goals (replace H := H2; clear H2; (try dsimp only at H); cbv)))
inductive F63R where
  | v0 (y0 : Int) (y1 : List AV) (y2 : List (AV × AV))
def F63R.av : F63R → AV
  | .v0 y0 _ _ => .int .i64 y0
def F63R.hp (a2 a3 a4 a5 : Int) (a6 : Bool) (a8 : List AV) : F63R → List Ent
  | .v0 _ y1 y2 => [.fam 0 y1, .var [.int .i64 a2, .mp 2, .vs 3 3 a3 a4 a5, .bool a6], .mp y2, .vec 3 a8]
noncomputable def f63 (o : Ops) (fuel : Nat) (a0 : ByteArray) (a1 : List AV) (a2 a3 a4 a5 : Int) (a6 : Bool) (a7 : List (AV × AV)) (a8 : List AV) : Option F63R :=
  bindR (f97 o fuel a1 a2 a3 a4 a5 a6 a7 a8) fun r => match r with
  | .v0 r9 => ifB (o.bnot (o.cmp .eql r9 0))
    (some (.v0 r9 a1 a7))
    (ifB (o.seq a0 ⟨#[]⟩)
     (some (.v0 31 a1 a7))
     (req (o.mok false [.str] a7) <|
      findA (o.mfind a7 (.str a0)) (fun e => sh142 e fun _ =>
      some (.v0 31 a1 a7))
      (ifB (o.cmp .geq (o.mlen a7) 4096)
       (some (.v0 6 a1 a7))
       (req (o.mok false [.str] a7) <|
        some (.v0 0 (o.apnd a1 [.agg [.sl 1 [] .no]]) (o.mput a7 (.str a0) (.fp 0 (o.len a1) 0)))))))
theorem f63_call (o : Ops) (ho : o = stdOps) (fuel : Nat) (a0 : ByteArray) (a1 : List AV) (a2 a3 a4 a5 : Int) (a6 : Bool) (a7 : List (AV × AV)) (a8 : List AV) {R : F63R} (H : f63 o fuel a0 a1 a2 a3 a4 a5 a6 a7 a8 = some R) (K : AV → List Ent → Prop) (E : AV → List Ent → Prop) (h : K R.av (F63R.hp a2 a3 a4 a5 a6 a8 R)) : CallA Try.prog 63 [.ptr 1 0, .str a0] [.fam 0 a1, .var [.int .i64 a2, .mp 2, .vs 3 3 a3 a4 a5, .bool a6], .mp a7, .vec 3 a8] K E := by
  refine call_wk fun K' hK => ?_
  refine call_keep (n₀ := 4) tab_ok Try.func63 rfl rfl rfl rfl ?_
  intro J hJ
  obtain rfl : o = J.o := by rw [ho, hJ]; rfl
  unfold f63 at H
  cbv
  repeat' (first
    | ((with_reducible first | refine awp_go2 ?_ | refine aops_go2 ?_ | refine strip_go2 ?_); cbv)
    | with_reducible exact id
    | (refine KeepQ.mk [] (by decide) ?_; cbv; cases H; refine hK _ _ _ _ ?_ ?_ rfl h <;> cbv)
    | (first | refine known_t (kn_bnot_t ho rfl) ?_ | refine known_y (kn_bnot_t ho rfl) ?_)
    | (first | refine known_f (kn_bnot_f ho rfl) ?_ | refine known_x (kn_bnot_f ho rfl) ?_)
    | (refine ifB_go H ?_ ?_ <;> clear H <;> intro hh H)
    | (refine ifB_og H ?_ ?_ <;> clear H <;> intro hh H)
    | (refine req_go H ?_; clear H; intro hh H)
    | (refine sh142_find H ?_ ?_ <;> clear H; (intro _ H; cbv); rotate_left; (intro H; cbv))
    | (obtain ⟨R, hR, H2⟩ := bindR_go H; refine call_in hJ [0, 1, 2, 3] (by decide) rfl rfl rfl (f97_call _ ho _ _ _ _ _ _ _ _ _ hR _ _ ?_); clear H hR; rcases R with ⟨_⟩; all_goals (replace H := H2; clear H2; (try dsimp only at H); cbv))
    | with_reducible refine And.intro ?_ ?_
    | (intro _; clear H h; simp only [ho, stdOps] at *; simp_all))
inductive F92R where
  | v0 (y0 : Int)
  | v1 (y0 : Int)
def F92R.av : F92R → AV
  | .v0 y0 => .tup [.nilp, .int .i64 y0]
  | .v1 y0 => .tup [.fp 0 y0 0, .int .i64 0]
def F92R.hp (a1 : List AV) (a2 a3 a4 a5 : Int) (a6 : Bool) (a7 : List (AV × AV)) (a8 : List AV) : F92R → List Ent
  | .v0 _ => [.fam 0 a1, .var [.int .i64 a2, .mp 2, .vs 3 3 a3 a4 a5, .bool a6], .mp a7, .vec 3 a8]
  | .v1 _ => [.fam 0 a1, .var [.int .i64 a2, .mp 2, .vs 3 3 a3 a4 a5, .bool a6], .mp a7, .vec 3 a8]
noncomputable def f92 (o : Ops) (fuel : Nat) (a0 : ByteArray) (a1 : List AV) (a2 a3 a4 a5 : Int) (a6 : Bool) (a7 : List (AV × AV)) (a8 : List AV) : Option F92R :=
  bindR (f97 o fuel a1 a2 a3 a4 a5 a6 a7 a8) fun r => match r with
  | .v0 r9 => ifB (o.bnot (o.cmp .eql r9 0))
    (some (.v0 r9))
    (req (o.mok false [.str] a7) <|
     findA (o.mfind a7 (.str a0)) (fun e => sh142 e fun v10 =>
     some (.v1 v10))
     (some (.v0 4)))
theorem f92_call (o : Ops) (ho : o = stdOps) (fuel : Nat) (a0 : ByteArray) (a1 : List AV) (a2 a3 a4 a5 : Int) (a6 : Bool) (a7 : List (AV × AV)) (a8 : List AV) {R : F92R} (H : f92 o fuel a0 a1 a2 a3 a4 a5 a6 a7 a8 = some R) (K : AV → List Ent → Prop) (E : AV → List Ent → Prop) (h : K R.av (F92R.hp a1 a2 a3 a4 a5 a6 a7 a8 R)) : CallA Try.prog 92 [.ptr 1 0, .str a0] [.fam 0 a1, .var [.int .i64 a2, .mp 2, .vs 3 3 a3 a4 a5, .bool a6], .mp a7, .vec 3 a8] K E := by
  refine call_wk fun K' hK => ?_
  refine call_keep (n₀ := 4) tab_ok Try.func92 rfl rfl rfl rfl ?_
  intro J hJ
  obtain rfl : o = J.o := by rw [ho, hJ]; rfl
  unfold f92 at H
  cbv
  repeat' (first
    | ((with_reducible refine awp_go2 ?_); cbv)
    | (refine KeepQ.mk [] (by decide) ?_; cbv; cases H; refine hK _ _ _ _ ?_ ?_ rfl h <;> cbv)
    | (first | refine known_t (kn_bnot_t ho rfl) ?_ | refine known_y (kn_bnot_t ho rfl) ?_)
    | (first | refine known_f (kn_bnot_f ho rfl) ?_ | refine known_x (kn_bnot_f ho rfl) ?_)
    | (refine ifB_go H ?_ ?_ <;> clear H <;> intro hh H)
    | (refine req_go H ?_; clear H; intro hh H)
    | (refine sh142_find H ?_ ?_ <;> clear H; (intro _ H; cbv); rotate_left; (intro H; cbv))
    | (obtain ⟨R, hR, H2⟩ := bindR_go H; refine call_in hJ [0, 1, 2, 3] (by decide) rfl rfl rfl (f97_call _ ho _ _ _ _ _ _ _ _ _ hR _ _ ?_); clear H hR; rcases R with ⟨_⟩; all_goals (replace H := H2; clear H2; (try dsimp only at H); cbv)))
inductive F99R where
  | v0 (y0 : List AV)
def F99R.av : F99R → AV
  | .v0 y0 => .sl 1 y0 .no
def F99R.hp (a3 : List AV) : F99R → List Ent
  | .v0 _ => [.fam 0 a3]
noncomputable def f99 (o : Ops) (fuel : Nat) (a0 : List AV) (a1 : Int) (a2 _a3 : List AV) : Option F99R :=
  req (o.le 0 a1) <|
  req (o.le a1 (o.len a0)) <|
  req (o.le 0 (o.mn (o.len a0) (o.ar .add .i64 a1 (o.len a2)))) <|
  req (o.le (o.mn (o.len a0) (o.ar .add .i64 a1 (o.len a2))) (o.len a0)) <|
  bindR (f139 o fuel [.sl 1 (o.sub a0 0 a1) .no, .sl 1 a2 .no, .sl 1 (o.drop a0 (o.mn (o.len a0) (o.ar .add .i64 a1 (o.len a2)))) .no]) fun r => match r with
  | .v0 r4 => some (.v0 r4)
theorem f99_call (o : Ops) (ho : o = stdOps) (fuel : Nat) (a0 : List AV) (a1 : Int) (a2 a3 : List AV) {R : F99R} (H : f99 o fuel a0 a1 a2 a3 = some R) (K : AV → List Ent → Prop) (E : AV → List Ent → Prop) (h : K R.av (F99R.hp a3 R)) : CallA Try.prog 99 [.sl 1 a0 .no, .int .i64 a1, .sl 1 a2 .no] [.fam 0 a3] K E := by
  refine call_wk fun K' hK => ?_
  refine call_keep (n₀ := 1) tab_ok Try.func99 rfl rfl rfl rfl ?_
  intro J hJ
  obtain rfl : o = J.o := by rw [ho, hJ]; rfl
  unfold f99 at H
  cbv
  repeat' (first
    | (refine KeepQ.mk [] (by decide) ?_; cbv; cases H; refine hK _ _ _ _ ?_ ?_ rfl h <;> cbv)
    | (refine req_go H ?_; clear H; intro hh H)
    | (obtain ⟨R, hR, H2⟩ := bindR_go H; refine call_weakF hJ [.sl 1 [] .no] ?_; cbv; refine call_in hJ [] (by decide) rfl rfl rfl (f139_call _ ho _ _ hR _ _ ?_); clear H hR; rcases R with ⟨_⟩; all_goals (replace H := H2; clear H2; (try dsimp only at H); cbv)))
inductive F95R where
  | v0 (y0 : List AV)
def F95R.av : F95R → AV
  | .v0 y0 => .sl 1 y0 .no
def F95R.hp (a1 : List AV) : F95R → List Ent
  | .v0 _ => [.fam 0 a1]
noncomputable def f95 (o : Ops) (_fuel : Nat) (a0 _a1 : List AV) : Option F95R :=
  isNil a0 false fun b2 =>
  ifB b2
  (some (.v0 []))
  (req (o.room [] a0 1) <|
   some (.v0 (o.apnd [] a0)))
theorem f95_call (o : Ops) (ho : o = stdOps) (fuel : Nat) (a0 a1 : List AV) {R : F95R} (H : f95 o fuel a0 a1 = some R) (K : AV → List Ent → Prop) (E : AV → List Ent → Prop) (h : K R.av (F95R.hp a1 R)) : CallA Try.prog 95 [.sl 1 a0 .no] [.fam 0 a1] K E := by
  refine call_wk fun K' hK => ?_
  refine call_keep (n₀ := 1) tab_ok Try.func95 rfl rfl rfl rfl ?_
  intro J hJ
  obtain rfl : o = J.o := by rw [ho, hJ]; rfl
  unfold f95 at H
  cbv
  repeat' (first
    | ((with_reducible refine awp_go2 ?_); cbv)
    | with_reducible exact ⟨_, rfl⟩
    | (refine KeepQ.mk [] (by decide) ?_; cbv; cases H; refine hK _ _ _ _ ?_ ?_ rfl h <;> cbv)
    | (refine ifB_go H ?_ ?_ <;> clear H <;> intro hh H)
    | (refine req_go H ?_; clear H; intro hh H)
    | (refine nil_go H ?_; clear H; intro b H; cbv)
    | with_reducible refine And.intro ?_ ?_)
end Go.Proofs.Ytjdbmfipciadfaa.A
namespace Go.Proofs.Ytjdbmfipciadfaa.A
open Go Go.Pt
set_option maxHeartbeats 4000000
set_option maxRecDepth 100000
inductive F93_1R where
  | v0 (y0 : List AV)
def F93_1R.av : F93_1R → AV
  | .v0 y0 => .sl 1 y0 .no
def F93_1R.hp (a1 : List AV) (a2 a3 a4 a5 : Int) (a6 : Bool) (a7 : List (AV × AV)) (a8 : List AV) : F93_1R → List Ent
  | .v0 _ => [.fam 0 a1, .var [.int .i64 a2, .mp 2, .vs 3 3 a3 a4 a5, .bool a6], .mp a7, .vec 3 a8]
inductive F93_1L0 where
  | x0 (y0 : List AV)
noncomputable def f93_1_l0 (o : Ops) (fuel : Nat) (a4 a3 : Int) (a8 : List AV) (a0 : Int) (a1 : List AV) (a5 a2 : Int) (a6 : Bool) (a7 : List (AV × AV)) : Nat → List AV → Int → Option F93_1L0
  | 0, _, _ => none
  | n + 1, w14, w15 =>
    ifB (o.cmp .lss w15 a4)
    (req (o.inb w15 a4) <|
     req (o.inb (o.sum a3 w15) (o.len a8)) <|
     getA (o.get a8 (o.sum a3 w15)) fun e => sh150 e fun v16 v17 v18 =>
     ifB (o.cmp .eql v16 a0)
     (bindR (f99 o fuel w14 v17 v18 a1) fun r => match r with
      | .v0 r19 => f93_1_l0 o fuel a4 a3 a8 a0 a1 a5 a2 a6 a7 n r19 (o.ar .add .i64 w15 1))
     (f93_1_l0 o fuel a4 a3 a8 a0 a1 a5 a2 a6 a7 n w14 (o.ar .add .i64 w15 1)))
    (some (.x0 w14))
theorem f93_1_l0_go {J : Jd} {n₀ : Nat} (hJ : J = std Try.prog n₀) {o : Ops} (hJo : J.o = o) {fuel : Nat} {a4 a3 : Int} {a8 : List AV} {a0 : Int} {a1 : List AV} {a5 a2 : Int} {a6 : Bool} {a7 : List (AV × AV)} {w14i : List AV} {w15i : Int} {α : Type} {k : F93_1L0 → Option α} {r : α} {c : Code} {Q : Ex → St → Prop} {s : St}
    (H : bindR (f93_1_l0 o fuel a4 a3 a8 a0 a1 a5 a2 a6 a7 fuel w14i w15i) k = some r) (hn : n₀ ≤ 4) (hle : Le s ⟨[(17, .int .i64 w15i), (16, .int .i64 a4), (15, .vs 3 3 a3 a4 a5), (5, .sl 1 w14i .no), (1, .fp 0 a0 0)], [.fam 0 a1, .var [.int .i64 a2, .mp 2, .vs 3 3 a3 a4 a5, .bool a6], .mp a7, .vec 3 a8], 34⟩)
    (round : ∀ X, k X = some r → ∀ (n : Nat) (w14 : List AV) (w15 : Int), f93_1_l0 o fuel a4 a3 a8 a0 a1 a5 a2 a6 a7 (n + 1) w14 w15 = some X → ∀ N : St → Prop,
      (∀ (env : List (Nat × AV)) (w14' : List AV) (w15' : Int) (v : List Ent), f93_1_l0 o fuel a4 a3 a8 a0 a1 a5 a2 a6 a7 n w14' w15' = some X → wkEnv env [(17, .int .i64 w15'), (16, .int .i64 a4), (15, .vs 3 3 a3 a4 a5), (5, .sl 1 w14' .no), (1, .fp 0 a0 0)] → N ⟨env, [.fam 0 a1, .var [.int .i64 a2, .mp 2, .vs 3 3 a3 a4 a5, .bool a6], .mp a7, .vec 3 a8] ++ v, 34⟩) → awp J tab c (thenQ N Q) ⟨[(17, .int .i64 w15), (16, .int .i64 a4), (15, .vs 3 3 a3 a4 a5), (5, .sl 1 w14 .no), (1, .fp 0 a0 0)], [.fam 0 a1, .var [.int .i64 a2, .mp 2, .vs 3 3 a3 a4 a5, .bool a6], .mp a7, .vec 3 a8], 34⟩) : J.code (.loop c) Q s := by
  subst hJo
  obtain ⟨X, hX, HX⟩ := bindR_go H
  refine loop_at (β := Nat × List AV × Int) hJ tab_ok (fun | (_, w14, w15) => ⟨[(17, .int .i64 w15), (16, .int .i64 a4), (15, .vs 3 3 a3 a4 a5), (5, .sl 1 w14 .no), (1, .fp 0 a0 0)], [.fam 0 a1, .var [.int .i64 a2, .mp 2, .vs 3 3 a3 a4 a5, .bool a6], .mp a7, .vec 3 a8], 34⟩) (fun | (n, w14, w15) => f93_1_l0 J.o fuel a4 a3 a8 a0 a1 a5 a2 a6 a7 n w14 w15 = some X) (fun | (n, _, _) => n) (fuel, w14i, w15i) hX hle (by rintro ⟨_, _, _⟩; exact hn) ?_
  rintro ⟨n, w14, w15⟩ hb N hN
  rcases n with _ | n
  · exact none_go (show (none : Option F93_1L0) = some X from hb)
  exact round X HX n w14 w15 hb N fun env w14' w15' v h1 h2 => hN _ (n, w14', w15') h1 (Nat.lt_succ_self n) ⟨h2, by first | (cbv; done) | (cbv; repeat' (first | exact trivial | exact rfl | apply And.intro)), rfl, rfl⟩
noncomputable def f93_1 (o : Ops) (fuel : Nat) (a0 : Int) (a1 : List AV) (a2 a3 a4 a5 : Int) (a6 : Bool) (a7 : List (AV × AV)) (a8 : List AV) : Option F93_1R :=
  req (o.inb a0 (o.len a1)) <|
  getA (o.get a1 a0) fun e => sh147 e fun v9 =>
  bindR (f93_1_l0 o fuel a4 a3 a8 a0 a1 a5 a2 a6 a7 fuel v9 0) fun r => match r with
  | .x0 y20 => bindR (f95 o fuel y20 a1) fun r => match r with
    | .v0 r21 => some (.v0 r21)
theorem f93_1_call (o : Ops) (ho : o = stdOps) (fuel : Nat) (a0 : Int) (a1 : List AV) (a2 a3 a4 a5 : Int) (a6 : Bool) (a7 : List (AV × AV)) (a8 : List AV) {R : F93_1R} (H : f93_1 o fuel a0 a1 a2 a3 a4 a5 a6 a7 a8 = some R) (K : AV → List Ent → Prop) (E : AV → List Ent → Prop) (h : K R.av (F93_1R.hp a1 a2 a3 a4 a5 a6 a7 a8 R)) : CallA Try.prog 93 [.ptr 1 0, .fp 0 a0 0] [.fam 0 a1, .var [.int .i64 a2, .mp 2, .vs 3 3 a3 a4 a5, .bool a6], .mp a7, .vec 3 a8] K E := by
  refine call_wk fun K' hK => ?_
  refine call_keep (n₀ := 4) tab_ok Try.func93 rfl rfl rfl rfl ?_
  intro J hJ
  obtain rfl : o = J.o := by rw [ho, hJ]; rfl
  unfold f93_1 at H
  cbv
  repeat' (first
    | ((with_reducible refine awp_go2 ?_); cbv)
    | (cases H; replace H := HX0; clear HX0; (try dsimp only at H))
    | (refine KeepQ.mk [] (by decide) ?_; cbv; cases H; refine hK _ _ _ _ ?_ ?_ rfl h <;> cbv)
    | (refine hN0 _ _ _ _ H ?_; with_reducible refine wkEnv_go2 ?_; cbv)
    | (refine ifB_go H ?_ ?_ <;> clear H <;> intro hh H)
    | (refine req_go H ?_; clear H; intro hh H)
    | (refine sh147_get H ?_; clear H; intro _ he H; cbv)
    | (refine sh150_get H ?_; clear H; intro _ _ _ he H; cbv)
    | (obtain ⟨R, hR, H2⟩ := bindR_go H; refine call_in hJ [0] (by decide) rfl rfl rfl (f99_call _ ho _ _ _ _ _ hR _ _ ?_); clear H hR; rcases R with ⟨_⟩; all_goals (replace H := H2; clear H2; (try dsimp only at H); cbv))
    | (obtain ⟨R, hR, H2⟩ := bindR_go H; refine call_in hJ [0] (by decide) rfl rfl rfl (f95_call _ ho _ _ _ hR _ _ ?_); clear H hR; rcases R with ⟨_⟩; all_goals (replace H := H2; clear H2; (try dsimp only at H); cbv))
    | (refine f93_1_l0_go hJ (o := J.o) rfl H (by decide) ⟨?_, ?_, rfl, rfl⟩ ?_
       · cbv; (repeat' (first | exact trivial | exact rfl | apply And.intro))
       · cbv; (repeat' (first | exact trivial | exact rfl | apply And.intro))
       clear H
       intro X0 HX0 n _ _ H Nx0 hN0
       rw [f93_1_l0] at H
       cbv))
inductive F91R where
  | v0
def F91R.av : F91R → AV
  | .v0  => .func 134 [.ptr 4 0]
def F91R.hp (a0 : List AV) (a1 a2 a3 a4 : Int) (a5 : Bool) (a6 : List (AV × AV)) (a7 : List AV) : F91R → List Ent
  | .v0  => [.fam 0 a0, .var [.int .i64 a1, .mp 2, .vs 3 3 a2 a3 a4, .bool a5], .mp a6, .vec 3 a7, .var [.ptr 1 0]]
noncomputable def f91 (_o : Ops) (_fuel : Nat) (_a0 : List AV) (_a1 _a2 _a3 _a4 : Int) (_a5 : Bool) (_a6 : List (AV × AV)) (_a7 : List AV) : Option F91R :=
  some (.v0 )
theorem f91_call (o : Ops) (ho : o = stdOps) (fuel : Nat) (a0 : List AV) (a1 a2 a3 a4 : Int) (a5 : Bool) (a6 : List (AV × AV)) (a7 : List AV) {R : F91R} (H : f91 o fuel a0 a1 a2 a3 a4 a5 a6 a7 = some R) (K : AV → List Ent → Prop) (E : AV → List Ent → Prop) (h : K R.av (F91R.hp a0 a1 a2 a3 a4 a5 a6 a7 R)) : CallA Try.prog 91 [.ptr 1 0] [.fam 0 a0, .var [.int .i64 a1, .mp 2, .vs 3 3 a2 a3 a4, .bool a5], .mp a6, .vec 3 a7] K E := by
  refine call_wk fun K' hK => ?_
  refine call_keep (n₀ := 4) tab_ok Try.func91 rfl rfl rfl rfl ?_
  intro J hJ
  obtain rfl : o = J.o := by rw [ho, hJ]; rfl
  unfold f91 at H
  cbv
  repeat' (first
    | (refine KeepQ.mk [4] (by decide) ?_; cbv; cases H; refine hK _ _ _ _ ?_ ?_ rfl h <;> cbv))
inductive F136R where
  | v0
def F136R.av : F136R → AV
  | .v0  => .func 156 [.ptr 2 0]
def F136R.hp (a0 : List AV) (a1 : List (AV × AV)) : F136R → List Ent
  | .v0  => [.fam 0 a0, .mp a1, .var [.mp 1]]
noncomputable def f136 (_o : Ops) (_fuel : Nat) (_a0 : List AV) (_a1 : List (AV × AV)) : Option F136R :=
  some (.v0 )
theorem f136_call (o : Ops) (ho : o = stdOps) (fuel : Nat) (a0 : List AV) (a1 : List (AV × AV)) {R : F136R} (H : f136 o fuel a0 a1 = some R) (K : AV → List Ent → Prop) (E : AV → List Ent → Prop) (h : K R.av (F136R.hp a0 a1 R)) : CallA Try.prog 136 [.mp 1] [.fam 0 a0, .mp a1] K E := by
  refine call_wk fun K' hK => ?_
  refine call_keep (n₀ := 2) tab_ok Try.func136 rfl rfl rfl rfl ?_
  intro J hJ
  obtain rfl : o = J.o := by rw [ho, hJ]; rfl
  unfold f136 at H
  cbv
  repeat' (first
    | (refine KeepQ.mk [2] (by decide) ?_; cbv; cases H; refine hK _ _ _ _ ?_ ?_ rfl h <;> cbv))
end Go.Proofs.Ytjdbmfipciadfaa.A
namespace Go.Proofs.Ytjdbmfipciadfaa.A
open Go Go.Pt
set_option maxHeartbeats 4000000
set_option maxRecDepth 100000
inductive F52R where
  | v0 (y0 : Int) (y1 : List (AV × AV))
def F52R.av : F52R → AV
  | .v0 y0 _ => .int .i64 y0
def F52R.hp (a0 : List AV) (a1 a2 a3 a4 : Int) (a5 : Bool) (a7 : List AV) : F52R → List Ent
  | .v0 _ y1 => [.fam 0 a0, .var [.int .i64 a1, .mp 2, .vs 3 3 a2 a3 a4, .bool a5], .mp y1, .vec 3 a7]
inductive F52L0 where
  | x0 (y0 : Int)
noncomputable def f52_l0 (o : Ops) (fuel : Nat) (r10 : List AV) (r11 : List (AV × AV)) (a0 : List AV) (a1 a2 a3 a4 : Int) (a5 : Bool) (a7 : List AV) : Nat → Int → Int → Option F52L0
  | 0, _, _ => none
  | n + 1, w15, w16 =>
    ifB (o.cmp .lss w15 (o.len r10))
    (req (o.inb w15 (o.len r10)) <|
     getA (o.get r10 w15) fun e => sh9 e fun v17 =>
     req (o.mok false [.str] r11) <|
     findA (o.mfind r11 (.str v17)) (fun e => sh142 e fun v18 =>
     bindR (f93_1 o fuel v18 a0 a1 a2 a3 a4 a5 r11 a7) fun r => match r with
      | .v0 r19 => f52_l0 o fuel r10 r11 a0 a1 a2 a3 a4 a5 a7 n (o.ar .add .i64 w15 1) (o.ar .sub .i64 w16 (o.len r19)))
     (none))
    (some (.x0 w16))
theorem f52_l0_go {J : Jd} {n₀ : Nat} (hJ : J = std Try.prog n₀) {o : Ops} (hJo : J.o = o) {pL1 : List Nat} {aL1 bL1 : Code} {fuel : Nat} {r10 : List AV} {r11 : List (AV × AV)} {a0 : List AV} {a1 a2 a3 a4 : Int} {a5 : Bool} {a7 : List AV} {w15i : Int} {w16i : Int} {α : Type} {k : F52L0 → Option α} {r : α} {c : Code} {Q : Ex → St → Prop} {s : St}
    (H : bindR (f52_l0 o fuel r10 r11 a0 a1 a2 a3 a4 a5 a7 fuel w15i w16i) k = some r) (hn : n₀ ≤ 10) (hle : Le s ⟨[(14, .int .i64 w15i), (13, .int .i64 (o.len r10)), (12, .sl 1 r10 .no), (0, .yld 7)], [.fam 0 a0, .var [.int .i64 a1, .mp 2, .vs 3 3 a2 a3 a4, .bool a5], .mp r11, .vec 3 a7, .var [.ptr 1 0], .var [.int .i64 w16i], .var [.ptr 1 0], .lp pL1 aL1 bL1 [(1, .ptr 4 0), (3, .ptr 5 0)] 26 .ready none, .dead, .dead], 23⟩)
    (round : ∀ X, k X = some r → ∀ (n : Nat) (w15 : Int) (w16 : Int), f52_l0 o fuel r10 r11 a0 a1 a2 a3 a4 a5 a7 (n + 1) w15 w16 = some X → ∀ N : St → Prop,
      (∀ (env : List (Nat × AV)) (w15' : Int) (w16' : Int) (v : List Ent), f52_l0 o fuel r10 r11 a0 a1 a2 a3 a4 a5 a7 n w15' w16' = some X → wkEnv env [(14, .int .i64 w15'), (13, .int .i64 (o.len r10)), (12, .sl 1 r10 .no), (0, .yld 7)] → N ⟨env, [.fam 0 a0, .var [.int .i64 a1, .mp 2, .vs 3 3 a2 a3 a4, .bool a5], .mp r11, .vec 3 a7, .var [.ptr 1 0], .var [.int .i64 w16'], .var [.ptr 1 0], .lp pL1 aL1 bL1 [(1, .ptr 4 0), (3, .ptr 5 0)] 26 .ready none, .dead, .dead] ++ v, 23⟩) → awp J tab c (thenQ N Q) ⟨[(14, .int .i64 w15), (13, .int .i64 (o.len r10)), (12, .sl 1 r10 .no), (0, .yld 7)], [.fam 0 a0, .var [.int .i64 a1, .mp 2, .vs 3 3 a2 a3 a4, .bool a5], .mp r11, .vec 3 a7, .var [.ptr 1 0], .var [.int .i64 w16], .var [.ptr 1 0], .lp pL1 aL1 bL1 [(1, .ptr 4 0), (3, .ptr 5 0)] 26 .ready none, .dead, .dead], 23⟩) : J.code (.loop c) Q s := by
  subst hJo
  obtain ⟨X, hX, HX⟩ := bindR_go H
  refine loop_at (β := Nat × Int × Int) hJ tab_ok (fun | (_, w15, w16) => ⟨[(14, .int .i64 w15), (13, .int .i64 (J.o.len r10)), (12, .sl 1 r10 .no), (0, .yld 7)], [.fam 0 a0, .var [.int .i64 a1, .mp 2, .vs 3 3 a2 a3 a4, .bool a5], .mp r11, .vec 3 a7, .var [.ptr 1 0], .var [.int .i64 w16], .var [.ptr 1 0], .lp pL1 aL1 bL1 [(1, .ptr 4 0), (3, .ptr 5 0)] 26 .ready none, .dead, .dead], 23⟩) (fun | (n, w15, w16) => f52_l0 J.o fuel r10 r11 a0 a1 a2 a3 a4 a5 a7 n w15 w16 = some X) (fun | (n, _, _) => n) (fuel, w15i, w16i) hX hle (by rintro ⟨_, _, _⟩; exact hn) ?_
  rintro ⟨n, w15, w16⟩ hb N hN
  rcases n with _ | n
  · exact none_go (show (none : Option F52L0) = some X from hb)
  exact round X HX n w15 w16 hb N fun env w15' w16' v h1 h2 => hN _ (n, w15', w16') h1 (Nat.lt_succ_self n) ⟨h2, by first | (cbv; done) | (cbv; repeat' (first | exact trivial | exact rfl | apply And.intro)), rfl, rfl⟩
noncomputable def f52 (o : Ops) (fuel : Nat) (a0 : List AV) (a1 a2 a3 a4 : Int) (a5 : Bool) (a6 : List (AV × AV)) (a7 : List AV) : Option F52R :=
  bindR (f96 o fuel a0 a1 a2 a3 a4 a5 a6 a7) fun r => match r with
  | .v0 r8 => ifB r8
    (some (.v0 0 a6))
    (bindR (f91 o fuel a0 a1 a2 a3 a4 a5 a6 a7) fun r => match r with
     | .v0  => bindR (f96 o fuel a0 a1 a2 a3 a4 a5 a6 a7) fun r => match r with
       | .v0 r9 => ifB r9
         (some (.v0 a1 a6))
         (bindR (f136 o fuel a0 a6) fun r => match r with
          | .v0  => bindR (f135 o fuel a6) fun r => match r with
            | .v0 r10 r11 => bindR (f52_l0 o fuel r10 r11 a0 a1 a2 a3 a4 a5 a7 fuel 0 a1) fun r => match r with
              | .x0 y20 => some (.v0 y20 r11)))
theorem f52_call (o : Ops) (ho : o = stdOps) (fuel : Nat) (a0 : List AV) (a1 a2 a3 a4 : Int) (a5 : Bool) (a6 : List (AV × AV)) (a7 : List AV) {R : F52R} (H : f52 o fuel a0 a1 a2 a3 a4 a5 a6 a7 = some R) (K : AV → List Ent → Prop) (E : AV → List Ent → Prop) (h : K R.av (F52R.hp a0 a1 a2 a3 a4 a5 a7 R)) : CallA Try.prog 52 [.ptr 1 0] [.fam 0 a0, .var [.int .i64 a1, .mp 2, .vs 3 3 a2 a3 a4, .bool a5], .mp a6, .vec 3 a7] K E := by
  refine call_wk fun K' hK => ?_
  refine call_keep (n₀ := 4) tab_ok Try.func52 rfl rfl rfl rfl ?_
  intro J hJ
  obtain rfl : o = J.o := by rw [ho, hJ]; rfl
  unfold f52 at H
  cbv
  repeat' (first
    | ((with_reducible refine awp_go2 ?_); cbv)
    | exact none_go H
    | (cases H; replace H := HX0; clear HX0; (try dsimp only at H))
    | (refine KeepQ.mk [] (by decide) ?_; cbv; cases H; refine hK _ _ _ _ ?_ ?_ rfl h <;> cbv)
    | (refine hN0 _ _ _ _ H ?_; with_reducible refine wkEnv_go2 ?_; cbv)
    | (refine ifB_go H ?_ ?_ <;> clear H <;> intro hh H)
    | (refine req_go H ?_; clear H; intro hh H)
    | (refine sh9_get H ?_; clear H; intro _ he H; cbv)
    | (refine sh142_find H ?_ ?_ <;> clear H; (intro _ H; cbv); rotate_left; (intro H; cbv))
    | (refine range_in hJ tab_ok 7 [(1, .ptr 4 0), (3, .ptr 5 0)] Try.func134 rfl rfl rfl rfl rfl ?_ ?_
       · cbv; (repeat' (first | exact trivial | exact rfl | apply And.intro))
       intro pL1 aL1 bL1 cL1 cd1 pu1 yl1 ho1 mt1 hp1 ha1 hb1 hJ1
       try dsimp only at hJ1
       cbv)
    | (refine yield_in hJ1 tab_ok 10 hp1 ha1 hb1 rfl rfl rfl rfl ?_; intro cL2 cd2 pu2 yl2 ho2 mt2 hJ2; (try dsimp only at hJ2); cbv)
    | (refine InlQ.mk [] (by decide) ?_; cbv)
    | (obtain ⟨R, hR, H2⟩ := bindR_go H; refine call_in hJ2 [0, 1, 2, 3] (by decide) rfl rfl rfl (f93_1_call _ ho _ _ _ _ _ _ _ _ _ _ hR _ _ ?_); clear H hR; rcases R with ⟨_⟩; all_goals (replace H := H2; clear H2; (try dsimp only at H); cbv))
    | (obtain ⟨R, hR, H2⟩ := bindR_go H; refine call_in hJ1 [8, 2] (by decide) rfl rfl rfl (f135_call _ ho _ _ hR _ _ ?_); clear H hR; rcases R with ⟨_, _⟩; all_goals (replace H := H2; clear H2; (try dsimp only at H); cbv))
    | (obtain ⟨R, hR, H2⟩ := bindR_go H; refine call_in hJ1 [0, 2] (by decide) rfl rfl rfl (f136_call _ ho _ _ _ hR _ _ ?_); clear H hR; rcases R with ⟨⟩; all_goals (replace H := H2; clear H2; (try dsimp only at H); cbv))
    | (obtain ⟨R, hR, H2⟩ := bindR_go H; refine call_in hJ1 [0, 1, 2, 3] (by decide) rfl rfl rfl (f96_call _ ho _ _ _ _ _ _ _ _ _ hR _ _ ?_); clear H hR; rcases R with ⟨_⟩; all_goals (replace H := H2; clear H2; (try dsimp only at H); cbv))
    | (obtain ⟨R, hR, H2⟩ := bindR_go H; refine call_in hJ [0, 1, 2, 3] (by decide) rfl rfl rfl (f91_call _ ho _ _ _ _ _ _ _ _ _ hR _ _ ?_); clear H hR; rcases R with ⟨⟩; all_goals (replace H := H2; clear H2; (try dsimp only at H); cbv))
    | (obtain ⟨R, hR, H2⟩ := bindR_go H; refine call_in hJ [0, 1, 2, 3] (by decide) rfl rfl rfl (f96_call _ ho _ _ _ _ _ _ _ _ _ hR _ _ ?_); clear H hR; rcases R with ⟨_⟩; all_goals (replace H := H2; clear H2; (try dsimp only at H); cbv))
    | (refine f52_l0_go hJ1 (o := J.o) rfl (pL1 := pL1) (aL1 := aL1) (bL1 := bL1) H (by decide) ⟨?_, ?_, rfl, rfl⟩ ?_
       · cbv; (repeat' (first | exact trivial | exact rfl | apply And.intro))
       · cbv; (repeat' (first | exact trivial | exact rfl | apply And.intro))
       clear H
       intro X0 HX0 n _ _ H Nx0 hN0
       rw [f52_l0] at H
       cbv))
inductive F34R where
  | v0 (y0 y1 y2 y3 : Int) (y4 : List (AV × AV)) (y5 : List AV)
def F34R.av : F34R → AV
  | .v0 y0 _ _ _ _ _ => .int .i64 y0
def F34R.hp (a3 : List AV) (a4 : Int) (a8 : Bool) : F34R → List Ent
  | .v0 _ y1 y2 y3 y4 y5 => [.fam 0 a3, .var [.int .i64 a4, .mp 2, .vs 4 3 y1 y2 y3, .bool a8], .mp y4, .dead, .vec 3 y5]
noncomputable def f34 (o : Ops) (fuel : Nat) (a0 : ByteArray) (a1 : Int) (a2 a3 : List AV) (a4 a5 a6 a7 : Int) (a8 : Bool) (a9 : List (AV × AV)) (a10 : List AV) : Option F34R :=
  bindR (f92 o fuel a0 a3 a4 a5 a6 a7 a8 a9 a10) fun r => match r with
  | .v0 r11 => ifB (o.bnot (o.cmp .eql r11 0))
    (some (.v0 r11 a5 a6 a7 a9 a10))
    (none)
  | .v1 r12 => ifB (o.bnot (o.cmp .eql 0 0))
    (some (.v0 0 a5 a6 a7 a9 a10))
    (bindR (f93_1 o fuel r12 a3 a4 a5 a6 a7 a8 a9 a10) fun r => match r with
     | .v0 r13 => ifB (o.pick (o.cmp .lss a1 0) true (o.cmp .gtr a1 (o.len r13)))
       (some (.v0 33 a5 a6 a7 a9 a10))
       (bindR (f52 o fuel a3 a4 a5 a6 a7 a8 a9 a10) fun r => match r with
        | .v0 r14 r15 => ifB (o.cmp .gtr (o.ar .sub .i64 (o.len a2) (o.ar .sub .i64 (o.len r13) a1)) r14)
          (some (.v0 30 a5 a6 a7 r15 a10))
          (ifB (o.cmp .gtr (o.len a2) 0)
           (bindR (f95 o fuel a2 a3) fun r => match r with
            | .v0 r16 => req (o.is a5 0) <|
              req (o.le 0 a6) <|
              req (o.le a6 (o.len a10)) <|
              req (o.room (o.sub a10 0 a6) [.agg [.fp 0 r12 0, .int .i64 a1, .sl 1 r16 .no]] 40) <|
              some (.v0 0 0 (o.len (o.apnd (o.sub a10 0 a6) [.agg [.fp 0 r12 0, .int .i64 a1, .sl 1 r16 .no]])) (o.len (o.apnd (o.sub a10 0 a6) [.agg [.fp 0 r12 0, .int .i64 a1, .sl 1 r16 .no]])) r15 (o.apnd (o.sub a10 0 a6) [.agg [.fp 0 r12 0, .int .i64 a1, .sl 1 r16 .no]])))
           (some (.v0 0 a5 a6 a7 r15 a10)))))
theorem f34_call (o : Ops) (ho : o = stdOps) (fuel : Nat) (a0 : ByteArray) (a1 : Int) (a2 a3 : List AV) (a4 a5 a6 a7 : Int) (a8 : Bool) (a9 : List (AV × AV)) (a10 : List AV) {R : F34R} (H : f34 o fuel a0 a1 a2 a3 a4 a5 a6 a7 a8 a9 a10 = some R) (K : AV → List Ent → Prop) (E : AV → List Ent → Prop) (h : K R.av (F34R.hp a3 a4 a8 R)) : CallA Try.prog 34 [.ptr 1 0, .str a0, .int .i64 a1, .sl 1 a2 .no] [.fam 0 a3, .var [.int .i64 a4, .mp 2, .vs 3 3 a5 a6 a7, .bool a8], .mp a9, .vec 3 a10] K E := by
  refine call_wk fun K' hK => ?_
  refine call_keep (n₀ := 4) tab_ok Try.func34 rfl rfl rfl rfl ?_
  intro J hJ
  obtain rfl : o = J.o := by rw [ho, hJ]; rfl
  unfold f34 at H
  cbv
  repeat' (first
    | ((with_reducible refine awp_go2 ?_); cbv)
    | with_reducible exact id
    | exact none_go H
    | (refine KeepQ.tn _ (by first | exact .inl rfl | exact .inr rfl) (Turn.at 4 (turn_mv 1 2 3 3 rfl rfl rfl rfl (leN_t rfl)) rfl) [4] (by decide) ?_; cbv; cases H; refine hK _ _ _ _ ?_ ?_ rfl h <;> cbv)
    | (refine KeepQ.mk [4] (by decide) ?_; cbv; cases H; refine hK _ _ _ _ ?_ ?_ rfl h <;> cbv)
    | (refine ifB_go H ?_ ?_ <;> clear H <;> intro hh H)
    | (refine req_go H ?_; clear H; intro hh H)
    | (obtain ⟨R, hR, H2⟩ := bindR_go H; refine call_in hJ [0] (by decide) rfl rfl rfl (f95_call _ ho _ _ _ hR _ _ ?_); clear H hR; rcases R with ⟨_⟩; all_goals (replace H := H2; clear H2; (try dsimp only at H); cbv))
    | (obtain ⟨R, hR, H2⟩ := bindR_go H; refine call_in hJ [0, 1, 2, 3] (by decide) rfl rfl rfl (f52_call _ ho _ _ _ _ _ _ _ _ _ hR _ _ ?_); clear H hR; rcases R with ⟨_, _⟩; all_goals (replace H := H2; clear H2; (try dsimp only at H); cbv))
    | (obtain ⟨R, hR, H2⟩ := bindR_go H; refine call_in hJ [0, 1, 2, 3] (by decide) rfl rfl rfl (f93_1_call _ ho _ _ _ _ _ _ _ _ _ _ hR _ _ ?_); clear H hR; rcases R with ⟨_⟩; all_goals (replace H := H2; clear H2; (try dsimp only at H); cbv))
    | (obtain ⟨R, hR, H2⟩ := bindR_go H; refine call_in hJ [0, 1, 2, 3] (by decide) rfl rfl rfl (f92_call _ ho _ _ _ _ _ _ _ _ _ _ hR _ _ ?_); clear H hR; rcases R with ⟨_⟩ | ⟨_⟩; all_goals (replace H := H2; clear H2; (try dsimp only at H); cbv))
    | with_reducible refine And.intro ?_ ?_)
end Go.Proofs.Ytjdbmfipciadfaa.A
namespace Go.Proofs.Ytjdbmfipciadfaa.A
open Go Go.Pt
set_option maxHeartbeats 4000000
set_option maxRecDepth 100000
inductive F138R where
  | v0 (y0 : Bool)
def F138R.av : F138R → AV
  | .v0 y0 => .bool y0
def F138R.hp (a3 : List AV) (a4 : Int) : F138R → List Ent
  | .v0 _ => [.fam 0 a3, .var [.fp 0 a4 0]]
noncomputable def f138 (o : Ops) (_fuel : Nat) (a0 _a1 : Int) (_a2 _a3 : List AV) (a4 : Int) : Option F138R :=
  some (.v0 (o.cmp .eql a0 a4))
theorem f138_call (o : Ops) (ho : o = stdOps) (fuel : Nat) (a0 a1 : Int) (a2 a3 : List AV) (a4 : Int) {R : F138R} (H : f138 o fuel a0 a1 a2 a3 a4 = some R) (K : AV → List Ent → Prop) (E : AV → List Ent → Prop) (h : K R.av (F138R.hp a3 a4 R)) : CallA Try.prog 138 [.agg [.fp 0 a0 0, .int .i64 a1, .sl 1 a2 .no], .ptr 1 0] [.fam 0 a3, .var [.fp 0 a4 0]] K E := by
  refine call_wk fun K' hK => ?_
  refine call_keep (n₀ := 2) tab_ok Try.func138 rfl rfl rfl rfl ?_
  intro J hJ
  obtain rfl : o = J.o := by rw [ho, hJ]; rfl
  unfold f138 at H
  cbv
  repeat' (first
    | (refine KeepQ.mk [] (by decide) ?_; cbv; cases H; refine hK _ _ _ _ ?_ ?_ rfl h <;> cbv))
inductive F157R where
  | v0 (y0 : Int)
def F157R.av : F157R → AV
  | .v0 y0 => .int .i64 y0
def F157R.hp (a3 a4 : List AV) (a5 : Int) : F157R → List Ent
  | .v0 _ => [.fam 0 a3, .vec 3 a4, .var [.fp 0 a5 0]]
inductive F157L0 where
  | x0 (y0 : Int)
  | x1
noncomputable def f157_l0 (o : Ops) (fuel : Nat) (a1 a0 : Int) (a4 a3 : List AV) (a5 a2 : Int) : Nat → Int → Option F157L0
  | 0, _ => none
  | n + 1, w10 =>
    ifB (o.cmp .lss w10 a1)
    (req (o.inb w10 a1) <|
     req (o.inb (o.sum a0 w10) (o.len a4)) <|
     getA (o.get a4 (o.sum a0 w10)) fun e => sh150 e fun v11 v12 v13 =>
     bindR (f138 o fuel v11 v12 v13 a3 a5) fun r => match r with
     | .v0 r14 => ifB r14
       (some (.x0 w10))
       (f157_l0 o fuel a1 a0 a4 a3 a5 a2 n (o.ar .add .i64 w10 1)))
    (some (.x1 ))
theorem f157_l0_go {J : Jd} {n₀ : Nat} (hJ : J = std Try.prog n₀) {o : Ops} (hJo : J.o = o) {fuel : Nat} {a1 a0 : Int} {a4 a3 : List AV} {a5 a2 : Int} {w10i : Int} {α : Type} {k : F157L0 → Option α} {r : α} {c : Code} {Q : Ex → St → Prop} {s : St}
    (H : bindR (f157_l0 o fuel a1 a0 a4 a3 a5 a2 fuel w10i) k = some r) (hn : n₀ ≤ 3) (hle : Le s ⟨[(8, .int .i64 w10i), (7, .int .i64 a1), (1, .func 138 [.ptr 2 0]), (0, .vs 1 3 a0 a1 a2)], [.fam 0 a3, .vec 3 a4, .var [.fp 0 a5 0]], 19⟩)
    (round : ∀ X, k X = some r → ∀ (n : Nat) (w10 : Int), f157_l0 o fuel a1 a0 a4 a3 a5 a2 (n + 1) w10 = some X → ∀ N : St → Prop,
      (∀ (env : List (Nat × AV)) (w10' : Int) (v : List Ent), f157_l0 o fuel a1 a0 a4 a3 a5 a2 n w10' = some X → wkEnv env [(8, .int .i64 w10'), (7, .int .i64 a1), (1, .func 138 [.ptr 2 0]), (0, .vs 1 3 a0 a1 a2)] → N ⟨env, [.fam 0 a3, .vec 3 a4, .var [.fp 0 a5 0]] ++ v, 19⟩) → awp J tab c (thenQ N Q) ⟨[(8, .int .i64 w10), (7, .int .i64 a1), (1, .func 138 [.ptr 2 0]), (0, .vs 1 3 a0 a1 a2)], [.fam 0 a3, .vec 3 a4, .var [.fp 0 a5 0]], 19⟩) : J.code (.loop c) Q s := by
  subst hJo
  obtain ⟨X, hX, HX⟩ := bindR_go H
  refine loop_at (β := Nat × Int) hJ tab_ok (fun | (_, w10) => ⟨[(8, .int .i64 w10), (7, .int .i64 a1), (1, .func 138 [.ptr 2 0]), (0, .vs 1 3 a0 a1 a2)], [.fam 0 a3, .vec 3 a4, .var [.fp 0 a5 0]], 19⟩) (fun | (n, w10) => f157_l0 J.o fuel a1 a0 a4 a3 a5 a2 n w10 = some X) (fun | (n, _) => n) (fuel, w10i) hX hle (by rintro ⟨_, _⟩; exact hn) ?_
  rintro ⟨n, w10⟩ hb N hN
  rcases n with _ | n
  · exact none_go (show (none : Option F157L0) = some X from hb)
  exact round X HX n w10 hb N fun env w10' v h1 h2 => hN _ (n, w10') h1 (Nat.lt_succ_self n) ⟨h2, by first | (cbv; done) | (cbv; repeat' (first | exact trivial | exact rfl | apply And.intro)), rfl, rfl⟩
noncomputable def f157 (o : Ops) (fuel : Nat) (a0 a1 a2 : Int) (a3 a4 : List AV) (a5 : Int) : Option F157R :=
  bindR (f157_l0 o fuel a1 a0 a4 a3 a5 a2 fuel 0) fun r => match r with
  | .x0 y15 => some (.v0 y15)
  | .x1  => some (.v0 (-1))
theorem f157_call (o : Ops) (ho : o = stdOps) (fuel : Nat) (a0 a1 a2 : Int) (a3 a4 : List AV) (a5 : Int) {R : F157R} (H : f157 o fuel a0 a1 a2 a3 a4 a5 = some R) (K : AV → List Ent → Prop) (E : AV → List Ent → Prop) (h : K R.av (F157R.hp a3 a4 a5 R)) : CallA Try.prog 157 [.vs 1 3 a0 a1 a2, .func 138 [.ptr 2 0]] [.fam 0 a3, .vec 3 a4, .var [.fp 0 a5 0]] K E := by
  refine call_wk fun K' hK => ?_
  refine call_keep (n₀ := 3) tab_ok Try.func157 rfl rfl rfl rfl ?_
  intro J hJ
  obtain rfl : o = J.o := by rw [ho, hJ]; rfl
  unfold f157 at H
  cbv
  repeat' (first
    | ((with_reducible refine awp_go2 ?_); cbv)
    | (cases H; replace H := HX0; clear HX0; (try dsimp only at H))
    | (refine KeepQ.mk [] (by decide) ?_; cbv; cases H; refine hK _ _ _ _ ?_ ?_ rfl h <;> cbv)
    | (refine hN0 _ _ _ H ?_; with_reducible refine wkEnv_go2 ?_; cbv)
    | (refine ifB_go H ?_ ?_ <;> clear H <;> intro hh H)
    | (refine req_go H ?_; clear H; intro hh H)
    | (refine sh150_get H ?_; clear H; intro _ _ _ he H; cbv)
    | (obtain ⟨R, hR, H2⟩ := bindR_go H; refine call_in hJ [0, 2] (by decide) rfl rfl rfl (f138_call _ ho _ _ _ _ _ _ hR _ _ ?_); clear H hR; rcases R with ⟨_⟩; all_goals (replace H := H2; clear H2; (try dsimp only at H); cbv))
    | (refine f157_l0_go hJ (o := J.o) rfl H (by decide) ⟨?_, ?_, rfl, rfl⟩ ?_
       · cbv; (repeat' (first | exact trivial | exact rfl | apply And.intro))
       · cbv; (repeat' (first | exact trivial | exact rfl | apply And.intro))
       clear H
       intro X0 HX0 n _ H Nx0 hN0
       rw [f157_l0] at H
       cbv))
inductive F137R where
  | v0 (y0 y1 y2 : Int) (y3 : List AV)
def F137R.av : F137R → AV
  | .v0 y0 y1 y2 _ => .vs 1 3 y0 y1 y2
def F137R.hp (a3 : List AV) (a5 : Int) : F137R → List Ent
  | .v0 _ _ _ y3 => [.fam 0 a3, .vec 3 y3, .var [.fp 0 a5 0]]
inductive F137L0 where
  | x0 (y0 : Int) (y1 : List AV)
noncomputable def f137_l0 (o : Ops) (fuel : Nat) (a1 a0 : Int) (a3 : List AV) (a5 a2 : Int) : Nat → Int → Int → List AV → Option F137L0
  | 0, _, _, _ => none
  | n + 1, w11, w12, w13 =>
    ifB (o.cmp .lss w12 a1)
    (req (o.inb w12 a1) <|
     req (o.inb (o.sum a0 w12) (o.len w13)) <|
     getA (o.get w13 (o.sum a0 w12)) fun e => sh150 e fun v14 v15 v16 =>
     bindR (f138 o fuel v14 v15 v16 a3 a5) fun r => match r with
     | .v0 r17 => ifB (o.bnot r17)
       (req (o.inb w11 a1) <|
        req (o.inb (o.sum a0 w11) (o.len w13)) <|
        f137_l0 o fuel a1 a0 a3 a5 a2 n (o.ar .add .i64 w11 1) (o.ar .add .i64 w12 1) (o.upd w13 (o.sum a0 w11) (.agg [.fp 0 v14 0, .int .i64 v15, .sl 1 v16 .no])))
       (f137_l0 o fuel a1 a0 a3 a5 a2 n w11 (o.ar .add .i64 w12 1) w13))
    (some (.x0 w11 w13))
theorem f137_l0_go {J : Jd} {n₀ : Nat} (hJ : J = std Try.prog n₀) {o : Ops} (hJo : J.o = o) {fuel : Nat} {a1 a0 : Int} {a3 : List AV} {a5 a2 : Int} {w11i : Int} {w12i : Int} {w13i : List AV} {α : Type} {k : F137L0 → Option α} {r : α} {c : Code} {Q : Ex → St → Prop} {s : St}
    (H : bindR (f137_l0 o fuel a1 a0 a3 a5 a2 fuel w11i w12i w13i) k = some r) (hn : n₀ ≤ 3) (hle : Le s ⟨[(6, .int .i64 w12i), (5, .int .i64 w11i), (1, .func 138 [.ptr 2 0]), (0, .vs 1 3 a0 a1 a2)], [.fam 0 a3, .vec 3 w13i, .var [.fp 0 a5 0]], 42⟩)
    (round : ∀ X, k X = some r → ∀ (n : Nat) (w11 : Int) (w12 : Int) (w13 : List AV), f137_l0 o fuel a1 a0 a3 a5 a2 (n + 1) w11 w12 w13 = some X → ∀ N : St → Prop,
      (∀ (env : List (Nat × AV)) (w11' : Int) (w12' : Int) (w13' : List AV) (v : List Ent), f137_l0 o fuel a1 a0 a3 a5 a2 n w11' w12' w13' = some X → wkEnv env [(6, .int .i64 w12'), (5, .int .i64 w11'), (1, .func 138 [.ptr 2 0]), (0, .vs 1 3 a0 a1 a2)] → N ⟨env, [.fam 0 a3, .vec 3 w13', .var [.fp 0 a5 0]] ++ v, 42⟩) → awp J tab c (thenQ N Q) ⟨[(6, .int .i64 w12), (5, .int .i64 w11), (1, .func 138 [.ptr 2 0]), (0, .vs 1 3 a0 a1 a2)], [.fam 0 a3, .vec 3 w13, .var [.fp 0 a5 0]], 42⟩) : J.code (.loop c) Q s := by
  subst hJo
  obtain ⟨X, hX, HX⟩ := bindR_go H
  refine loop_at (β := Nat × Int × Int × List AV) hJ tab_ok (fun | (_, w11, w12, w13) => ⟨[(6, .int .i64 w12), (5, .int .i64 w11), (1, .func 138 [.ptr 2 0]), (0, .vs 1 3 a0 a1 a2)], [.fam 0 a3, .vec 3 w13, .var [.fp 0 a5 0]], 42⟩) (fun | (n, w11, w12, w13) => f137_l0 J.o fuel a1 a0 a3 a5 a2 n w11 w12 w13 = some X) (fun | (n, _, _, _) => n) (fuel, w11i, w12i, w13i) hX hle (by rintro ⟨_, _, _, _⟩; exact hn) ?_
  rintro ⟨n, w11, w12, w13⟩ hb N hN
  rcases n with _ | n
  · exact none_go (show (none : Option F137L0) = some X from hb)
  exact round X HX n w11 w12 w13 hb N fun env w11' w12' w13' v h1 h2 => hN _ (n, w11', w12', w13') h1 (Nat.lt_succ_self n) ⟨h2, by first | (cbv; done) | (cbv; repeat' (first | exact trivial | exact rfl | apply And.intro)), rfl, rfl⟩
noncomputable def f137 (o : Ops) (fuel : Nat) (a0 a1 a2 : Int) (a3 a4 : List AV) (a5 : Int) : Option F137R :=
  bindR (f157 o fuel a0 a1 a2 a3 a4 a5) fun r => match r with
  | .v0 r6 => ifB (o.cmp .eql r6 (-1))
    (some (.v0 a0 a1 a2 a4))
    (bindR (f137_l0 o fuel a1 a0 a3 a5 a2 fuel r6 (o.ar .add .i64 r6 1) a4) fun r => match r with
     | .x0 y18 y19 => req (o.le 0 y18) <|
       req (o.le y18 a1) <|
       req (o.le 0 (o.sum a0 y18)) <|
       req (o.le 0 (o.dif a1 y18)) <|
       req (o.le (o.sum (o.sum a0 y18) (o.dif a1 y18)) (o.len y19)) <|
       req (o.le 0 y18) <|
       req (o.le (o.sum a0 y18) a2) <|
       some (.v0 a0 y18 a2 (o.lay y19 (o.sum a0 y18) (o.rep (o.dif a1 y18) (.agg [.nilp, .int .i64 0, .nils])))))
theorem f137_call (o : Ops) (ho : o = stdOps) (fuel : Nat) (a0 a1 a2 : Int) (a3 a4 : List AV) (a5 : Int) {R : F137R} (H : f137 o fuel a0 a1 a2 a3 a4 a5 = some R) (K : AV → List Ent → Prop) (E : AV → List Ent → Prop) (h : K R.av (F137R.hp a3 a5 R)) : CallA Try.prog 137 [.vs 1 3 a0 a1 a2, .func 138 [.ptr 2 0]] [.fam 0 a3, .vec 3 a4, .var [.fp 0 a5 0]] K E := by
  refine call_wk fun K' hK => ?_
  refine call_keep (n₀ := 3) tab_ok Try.func137 rfl rfl rfl rfl ?_
  intro J hJ
  obtain rfl : o = J.o := by rw [ho, hJ]; rfl
  unfold f137 at H
  cbv
  repeat' (first
    | ((with_reducible refine awp_go2 ?_); cbv)
    | (cases H; replace H := HX0; clear HX0; (try dsimp only at H))
    | (refine KeepQ.mk [] (by decide) ?_; cbv; cases H; refine hK _ _ _ _ ?_ ?_ rfl h <;> cbv)
    | (refine hN0 _ _ _ _ _ H ?_; with_reducible refine wkEnv_go2 ?_; cbv)
    | (refine ifB_go H ?_ ?_ <;> clear H <;> intro hh H)
    | (refine req_go H ?_; clear H; intro hh H)
    | (refine sh150_get H ?_; clear H; intro _ _ _ he H; cbv)
    | (obtain ⟨R, hR, H2⟩ := bindR_go H; refine call_in hJ [0, 2] (by decide) rfl rfl rfl (f138_call _ ho _ _ _ _ _ _ hR _ _ ?_); clear H hR; rcases R with ⟨_⟩; all_goals (replace H := H2; clear H2; (try dsimp only at H); cbv))
    | (obtain ⟨R, hR, H2⟩ := bindR_go H; refine call_in hJ [0, 1, 2] (by decide) rfl rfl rfl (f157_call _ ho _ _ _ _ _ _ _ hR _ _ ?_); clear H hR; rcases R with ⟨_⟩; all_goals (replace H := H2; clear H2; (try dsimp only at H); cbv))
    | (refine f137_l0_go hJ (o := J.o) rfl H (by decide) ⟨?_, ?_, rfl, rfl⟩ ?_
       · cbv; (repeat' (first | exact trivial | exact rfl | apply And.intro))
       · cbv; (repeat' (first | exact trivial | exact rfl | apply And.intro))
       clear H
       intro X0 HX0 n _ _ _ H Nx0 hN0
       rw [f137_l0] at H
       cbv))
inductive F94R where
  | v0 (y0 y1 y2 : Int) (y3 : List AV)
def F94R.av : F94R → AV
  | .v0 _ _ _ _ => .tup []
def F94R.hp (a1 : List AV) (a2 : Int) (a6 : Bool) (a7 : List (AV × AV)) : F94R → List Ent
  | .v0 y0 y1 y2 y3 => [.fam 0 a1, .var [.int .i64 a2, .mp 2, .vs 3 3 y0 y1 y2, .bool a6], .mp a7, .vec 3 y3]
noncomputable def f94 (o : Ops) (fuel : Nat) (a0 : Int) (a1 : List AV) (_a2 a3 a4 a5 : Int) (_a6 : Bool) (_a7 : List (AV × AV)) (a8 : List AV) : Option F94R :=
  bindR (f137 o fuel a3 a4 a5 a1 a8 a0) fun r => match r with
  | .v0 r9 r10 r11 r12 => some (.v0 r9 r10 r11 r12)
theorem f94_call (o : Ops) (ho : o = stdOps) (fuel : Nat) (a0 : Int) (a1 : List AV) (a2 a3 a4 a5 : Int) (a6 : Bool) (a7 : List (AV × AV)) (a8 : List AV) {R : F94R} (H : f94 o fuel a0 a1 a2 a3 a4 a5 a6 a7 a8 = some R) (K : AV → List Ent → Prop) (E : AV → List Ent → Prop) (h : K R.av (F94R.hp a1 a2 a6 a7 R)) : CallA Try.prog 94 [.ptr 1 0, .fp 0 a0 0] [.fam 0 a1, .var [.int .i64 a2, .mp 2, .vs 3 3 a3 a4 a5, .bool a6], .mp a7, .vec 3 a8] K E := by
  refine call_wk fun K' hK => ?_
  refine call_keep (n₀ := 4) tab_ok Try.func94 rfl rfl rfl rfl ?_
  intro J hJ
  obtain rfl : o = J.o := by rw [ho, hJ]; rfl
  unfold f94 at H
  cbv
  repeat' (first
    | (refine KeepQ.mk [] (by decide) ?_; cbv; cases H; refine hK _ _ _ _ ?_ ?_ rfl h <;> cbv)
    | (obtain ⟨R, hR, H2⟩ := bindR_go H; refine call_in hJ [0, 3, 4] (by decide) rfl rfl rfl (f137_call _ ho _ _ _ _ _ _ _ hR _ _ ?_); clear H hR; rcases R with ⟨_, _, _, _⟩; all_goals (replace H := H2; clear H2; (try dsimp only at H); cbv)))
end Go.Proofs.Ytjdbmfipciadfaa.A
namespace Go.Proofs.Ytjdbmfipciadfaa.A
open Go Go.Pt
set_option maxHeartbeats 4000000
set_option maxRecDepth 100000
inductive F33R where
  | v0 (y0 : Int) (y1 : List AV) (y2 y3 y4 : Int) (y5 : List AV)
def F33R.av : F33R → AV
  | .v0 y0 _ _ _ _ _ => .int .i64 y0
def F33R.hp (a2 : Int) (a6 : Bool) (a7 : List (AV × AV)) : F33R → List Ent
  | .v0 _ y1 y2 y3 y4 y5 => [.fam 0 y1, .var [.int .i64 a2, .mp 2, .vs 3 3 y2 y3 y4, .bool a6], .mp a7, .vec 3 y5]
noncomputable def f33 (o : Ops) (fuel : Nat) (a0 : ByteArray) (a1 : List AV) (a2 a3 a4 a5 : Int) (a6 : Bool) (a7 : List (AV × AV)) (a8 : List AV) : Option F33R :=
  bindR (f92 o fuel a0 a1 a2 a3 a4 a5 a6 a7 a8) fun r => match r with
  | .v0 r9 => ifB (o.bnot (o.cmp .eql r9 0))
    (some (.v0 r9 a1 a3 a4 a5 a8))
    (none)
  | .v1 r10 => ifB (o.bnot (o.cmp .eql 0 0))
    (some (.v0 0 a1 a3 a4 a5 a8))
    (bindR (f93_1 o fuel r10 a1 a2 a3 a4 a5 a6 a7 a8) fun r => match r with
     | .v0 r11 => req (o.inb r10 (o.len a1)) <|
       getA (o.get a1 r10) fun e => sh147 e fun _ =>
       bindR (f94 o fuel r10 (o.upd a1 r10 (.agg [.sl 1 r11 .no])) a2 a3 a4 a5 a6 a7 a8) fun r => match r with
       | .v0 r13 r14 r15 r16 => some (.v0 0 (o.upd a1 r10 (.agg [.sl 1 r11 .no])) r13 r14 r15 r16))
theorem f33_call (o : Ops) (ho : o = stdOps) (fuel : Nat) (a0 : ByteArray) (a1 : List AV) (a2 a3 a4 a5 : Int) (a6 : Bool) (a7 : List (AV × AV)) (a8 : List AV) {R : F33R} (H : f33 o fuel a0 a1 a2 a3 a4 a5 a6 a7 a8 = some R) (K : AV → List Ent → Prop) (E : AV → List Ent → Prop) (h : K R.av (F33R.hp a2 a6 a7 R)) : CallA Try.prog 33 [.ptr 1 0, .str a0] [.fam 0 a1, .var [.int .i64 a2, .mp 2, .vs 3 3 a3 a4 a5, .bool a6], .mp a7, .vec 3 a8] K E := by
  refine call_wk fun K' hK => ?_
  refine call_keep (n₀ := 4) tab_ok Try.func33 rfl rfl rfl rfl ?_
  intro J hJ
  obtain rfl : o = J.o := by rw [ho, hJ]; rfl
  unfold f33 at H
  cbv
  repeat' (first
    | ((with_reducible refine awp_go2 ?_); cbv)
    | exact none_go H
    | (refine KeepQ.mk [] (by decide) ?_; cbv; cases H; refine hK _ _ _ _ ?_ ?_ rfl h <;> cbv)
    | (refine ifB_go H ?_ ?_ <;> clear H <;> intro hh H)
    | (refine req_go H ?_; clear H; intro hh H)
    | (refine sh147_get H ?_; clear H; intro _ he H; cbv)
    | (obtain ⟨R, hR, H2⟩ := bindR_go H; refine call_in hJ [0, 1, 2, 3] (by decide) rfl rfl rfl (f94_call _ ho _ _ _ _ _ _ _ _ _ _ hR _ _ ?_); clear H hR; rcases R with ⟨_, _, _, _⟩; all_goals (replace H := H2; clear H2; (try dsimp only at H); cbv))
    | (obtain ⟨R, hR, H2⟩ := bindR_go H; refine call_in hJ [0, 1, 2, 3] (by decide) rfl rfl rfl (f93_1_call _ ho _ _ _ _ _ _ _ _ _ _ hR _ _ ?_); clear H hR; rcases R with ⟨_⟩; all_goals (replace H := H2; clear H2; (try dsimp only at H); cbv))
    | (obtain ⟨R, hR, H2⟩ := bindR_go H; refine call_in hJ [0, 1, 2, 3] (by decide) rfl rfl rfl (f92_call _ ho _ _ _ _ _ _ _ _ _ _ hR _ _ ?_); clear H hR; rcases R with ⟨_⟩ | ⟨_⟩; all_goals (replace H := H2; clear H2; (try dsimp only at H); cbv)))
inductive F35R where
  | v0 (y0 : Int)
def F35R.av : F35R → AV
  | .v0 y0 => .int .i64 y0
def F35R.hp (a0 : List AV) (a1 a2 a3 a4 : Int) (a5 : Bool) (a6 : List (AV × AV)) (a7 : List AV) : F35R → List Ent
  | .v0 _ => [.fam 0 a0, .var [.int .i64 a1, .mp 2, .vs 3 3 a2 a3 a4, .bool a5], .mp a6, .vec 3 a7]
noncomputable def f35 (o : Ops) (fuel : Nat) (a0 : List AV) (a1 a2 a3 a4 : Int) (a5 : Bool) (a6 : List (AV × AV)) (a7 : List AV) : Option F35R :=
  bindR (f96 o fuel a0 a1 a2 a3 a4 a5 a6 a7) fun r => match r with
  | .v0 r8 => ifB r8
    (some (.v0 0))
    (some (.v0 a3))
theorem f35_call (o : Ops) (ho : o = stdOps) (fuel : Nat) (a0 : List AV) (a1 a2 a3 a4 : Int) (a5 : Bool) (a6 : List (AV × AV)) (a7 : List AV) {R : F35R} (H : f35 o fuel a0 a1 a2 a3 a4 a5 a6 a7 = some R) (K : AV → List Ent → Prop) (E : AV → List Ent → Prop) (h : K R.av (F35R.hp a0 a1 a2 a3 a4 a5 a6 a7 R)) : CallA Try.prog 35 [.ptr 1 0] [.fam 0 a0, .var [.int .i64 a1, .mp 2, .vs 3 3 a2 a3 a4, .bool a5], .mp a6, .vec 3 a7] K E := by
  refine call_wk fun K' hK => ?_
  refine call_keep (n₀ := 4) tab_ok Try.func35 rfl rfl rfl rfl ?_
  intro J hJ
  obtain rfl : o = J.o := by rw [ho, hJ]; rfl
  unfold f35 at H
  cbv
  repeat' (first
    | ((with_reducible refine awp_go2 ?_); cbv)
    | (refine KeepQ.mk [] (by decide) ?_; cbv; cases H; refine hK _ _ _ _ ?_ ?_ rfl h <;> cbv)
    | (refine ifB_go H ?_ ?_ <;> clear H <;> intro hh H)
    | (obtain ⟨R, hR, H2⟩ := bindR_go H; refine call_in hJ [0, 1, 2, 3] (by decide) rfl rfl rfl (f96_call _ ho _ _ _ _ _ _ _ _ _ hR _ _ ?_); clear H hR; rcases R with ⟨_⟩; all_goals (replace H := H2; clear H2; (try dsimp only at H); cbv)))
inductive F98R where
  | v0 (y0 : Int)
def F98R.av : F98R → AV
  | .v0 y0 => .int .i64 y0
def F98R.hp (a1 : List AV) : F98R → List Ent
  | .v0 _ => [.fam 0 a1]
noncomputable def f98 (o : Ops) (_fuel : Nat) (a0 : Int) (_a1 : List AV) : Option F98R :=
  ifB (o.cmp .eql a0 (-9223372036854775808))
  (some (.v0 0))
  (ifB (o.cmp .lss a0 0)
   (some (.v0 (o.neg .i64 a0)))
   (some (.v0 a0)))
theorem f98_call (o : Ops) (ho : o = stdOps) (fuel : Nat) (a0 : Int) (a1 : List AV) {R : F98R} (H : f98 o fuel a0 a1 = some R) (K : AV → List Ent → Prop) (E : AV → List Ent → Prop) (h : K R.av (F98R.hp a1 R)) : CallA Try.prog 98 [.int .i64 a0] [.fam 0 a1] K E := by
  refine call_wk fun K' hK => ?_
  refine call_keep (n₀ := 1) tab_ok Try.func98 rfl rfl rfl rfl ?_
  intro J hJ
  obtain rfl : o = J.o := by rw [ho, hJ]; rfl
  unfold f98 at H
  cbv
  repeat' (first
    | ((with_reducible refine awp_go2 ?_); cbv)
    | (refine KeepQ.mk [] (by decide) ?_; cbv; cases H; refine hK _ _ _ _ ?_ ?_ rfl h <;> cbv)
    | (refine ifB_go H ?_ ?_ <;> clear H <;> intro hh H))
end Go.Proofs.Ytjdbmfipciadfaa.A
