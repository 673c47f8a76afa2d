/- slices.SortFunc on a row of keys. -/
import Derived.Test.YtjdbmfipciadfaaSkKeys
import Derived.Shelf.SlSortCmp.WholeK
import Derived.Test.YtjdbmfipciadfaaSkShelf
import Derived.Ground.SlsfProg
import Derived.WalkKit

namespace Go.Proofs.Ytjdbmfipciadfaa.A
open Go Go.Shelf Go.RowKit Go.Lib Go.Sort Go.Proofs
abbrev Kb : Type := { k : Int × Int // 0 ≤ k.1 ∧ k.1 < 2 ^ 62 ∧ 0 ≤ k.2 ∧ k.2 < 2 ^ 62 }
instance : Inhabited Kb := ⟨⟨(0, 0), by decide⟩⟩
def cfB (x y : Kb) : Int := if x.1.1 = y.1.1 then x.1.2 - y.1.2 else x.1.1 - y.1.1
def encB (x : Kb) : List Value := [.int .i64 x.1.1, .int .i64 x.1.2]
/-- What is asked of the two closures. -/
def CmpB (g : Nat) : Prop := ∀ (x y : Kb) (W : World), Calls Try.prog g #[.agg #[.int .i64 x.1.1, .int .i64 x.1.2], .agg #[.int .i64 y.1.1, .int .i64 y.1.2]] W fun e w' => e = .returned (.int .i64 (cfB x y)) ∧ ∃ q os', w' = grow (W.drewN q) os'
set_option maxHeartbeats 1000000 in
theorem cmp_127 : CmpB 127 := by
  intro x y W
  obtain ⟨⟨a, b⟩, h1, h2, h3, h4⟩ := x
  obtain ⟨⟨c, d⟩, k1, k2, k3, k4⟩ := y
  unfold cfB
  by_cases e : a = c
  · have hne : (a != c) = false := by simp [e]
    simp only [e, if_true]
    go_enter Try.func127, Try.ntmps127
    go_wp2
    go_ret
    exact ⟨rfl, 0, _, by rw [alloc_eq_grow, alloc_eq_grow, grow_grow]; rfl⟩
  · have hne : (a != c) = true := by simp [e]
    simp only [e, if_false]
    go_enter Try.func127, Try.ntmps127
    go_wp2
    go_ret
    exact ⟨rfl, 0, _, by rw [alloc_eq_grow, alloc_eq_grow, grow_grow]; rfl⟩
set_option maxHeartbeats 1000000 in
theorem cmp_129 : CmpB 129 := by
  intro x y W
  obtain ⟨⟨a, b⟩, h1, h2, h3, h4⟩ := x
  obtain ⟨⟨c, d⟩, k1, k2, k3, k4⟩ := y
  unfold cfB
  by_cases e : a = c
  · have hne : (a != c) = false := by simp [e]
    simp only [e, if_true]
    go_enter Try.func129, Try.ntmps129
    go_wp2
    go_ret
    exact ⟨rfl, 0, _, by rw [alloc_eq_grow, alloc_eq_grow, grow_grow]; rfl⟩
  · have hne : (a != c) = true := by simp [e]
    simp only [e, if_false]
    go_enter Try.func129, Try.ntmps129
    go_wp2
    go_ret
    exact ⟨rfl, 0, _, by rw [alloc_eq_grow, alloc_eq_grow, grow_grow]; rfl⟩

theorem ltB (x y : Kb) : ltOf cfB x y = decide (x.1.1 < y.1.1 ∨ x.1.1 = y.1.1 ∧ x.1.2 < y.1.2) := by
  unfold ltOf cfB
  by_cases h1 : x.1.1 = y.1.1 <;> simp [h1] <;> omega
theorem swoB : SWO (ltOf cfB) where
  irrefl x := by rw [ltB]; simp
  trans x y z h1 h2 := by rw [ltB] at *; simp at *; omega
  ntrans x y z h1 h2 := by rw [ltB] at *; simp at *; omega
def kle (a b : Int × Int) : Bool := decide (a.1 < b.1 ∨ a.1 = b.1 ∧ a.2 ≤ b.2)

/-- Sorted, and a permutation: there is but one such list. -/
theorem sorted_is {l : List (Int × Int)} {d d' : Array Kb} (hd : d.toList.map (·.1) = l) (hp : PermIn 0 d.size d d') (hs : SortedIn (ltOf cfB) 0 d.size d') : d'.toList.map (·.1) = l.mergeSort kle := by
  have hperm : (d'.toList.map (·.1)).Perm l := by
    have h3 := hp.2.2
    rw [Array.extract_size, show d'.extract 0 d.size = d' from by rw [← hp.1, Array.extract_size]] at h3
    rw [← hd]
    exact h3.map _
  have total : ∀ a b : Int × Int, (kle a b || kle b a) = true := fun a b => by simp [kle]; omega
  have trans : ∀ a b c : Int × Int, kle a b = true → kle b c = true → kle a c = true := fun a b c h1 h2 => by simp [kle] at *; omega
  have h1 := List.pairwise_mergeSort (le := kle) trans total l
  have h2 : (d'.toList.map (·.1)).Pairwise fun a b => kle a b = true := by
    rw [List.pairwise_map, List.pairwise_iff_getElem]
    intro i j hi hj hij
    have hjd : j < d.size := by rw [← hp.1]; simpa using hj
    have := hs i j (Nat.zero_le _) hij hjd
    rw [ltB] at this
    have e1 : d'[j]! = d'.toList[j] := by rw [getElem!_pos d' j (by simpa using hj)]; simp
    have e2 : d'[i]! = d'.toList[i] := by rw [getElem!_pos d' i (by simpa using hi)]; simp
    rw [e1, e2] at this
    simp [kle] at *
    omega
  refine List.Perm.eq_of_pairwise (le := fun a b => kle a b = true) (fun a b _ _ h3 h4 => ?_) h2 h1 (hperm.trans (List.mergeSort_perm l kle).symm)
  simp [kle] at h3 h4
  exact Prod.ext (by omega) (by omega)

theorem isAggB : ∀ w, (isAgg 37).run Try.prog w = .ok true w := fun w => by
  obtain ⟨i, d, z, h⟩ := tab_ok.ok (t := 37) rfl
  exact Go.Pt.run_agg h w
theorem sizeOfB : ∀ w, (Go.sizeOf 37).run Try.prog w = .ok 2 w := fun w => by
  obtain ⟨i, d, z, h⟩ := tab_ok.ok (t := 37) rfl
  exact Go.Pt.run_size h w

theorem sort_at {g : Nat} (hg : CmpB g) (eg : ∀ args w, (callFunc g args).run Try.prog w = .ok (.enter g args) w) (blk off cap : Nat) (d : Array Kb) (w : World) (hH : HoldsK encB 2 w blk off d) (hblk : blk < w.heap.size) (hsz : d.size < 4611686018427387904) :
    Calls Try.prog 151 #[.slice (some ⟨blk, off, none⟩) d.size cap, .func (.func g) #[] #[]] w fun e w' => e = .returned (.tuple #[]) ∧ ∃ d' n os, PermIn 0 d.size d d' ∧ SortedIn (ltOf cfB) 0 d.size d' ∧ w' = sortWorldK encB 2 w blk off n d' os :=
  AnyQ.slices_SortFunc sortB 2 isAggB sizeOfB encB (fun _ => rfl) (fun x v hv => by simp [encB] at hv; rcases hv with rfl | rfl <;> rfl) cfB swoB g #[] blk off cap d w eg (fun _ _ _ _ x y => hg x y _) hH hblk hsz

section
open Go.Pt
variable {ρ : Ro} {σ : List Ent} {w : World}
theorem rel_ahead (h : Rel ρ σ w) (n : Nat) : Stp ρ σ w ρ σ (Sort.ahead w n) ∧ Rel ρ σ (Sort.ahead w n) := rel_same h rfl rfl rfl rfl
theorem rel_grow (h : Rel ρ σ w) : ∀ (l : List Obj), Stp ρ σ w ρ σ (grow w l.toArray) ∧ Rel ρ σ (grow w l.toArray) := by
  intro l
  induction l generalizing w with
  | nil => rw [grow_empty]; exact ⟨Stp.refl _ _ _, h⟩
  | cons o l ih =>
    have h1 := rel_free (s := ⟨[], σ, 0⟩) h o
    rw [alloc_eq_grow] at h1
    have h2 := ih h1.2
    rw [grow_grow] at h2
    rw [show (o :: l).toArray = #[o] ++ l.toArray by simp]
    exact ⟨h1.1.trans' h2.1, h2.2⟩

theorem setMany_all : ∀ (vs : List Value) (pre : List Value) (F : Array Value), F.size = pre.length + vs.length → (∀ i : Nat, i < pre.length → F[i]? = pre[i]?) → setMany F pre.length vs = (pre ++ vs).toArray
  | [], pre, F, hs, hp => by
    apply Array.ext_getElem?
    intro i
    simp only [setMany]
    by_cases h : i < pre.length
    · rw [hp i h]; simp
    · rw [Array.getElem?_eq_none (by simp at hs; omega)]; simp; omega
  | v :: vs, pre, F, hs, hp => by
    have := setMany_all vs (pre ++ [v]) (F.setIfInBounds pre.length v) (by simp at hs ⊢; omega) (fun i hi => by
      simp at hi hs
      rw [Array.getElem?_setIfInBounds]
      by_cases e : pre.length = i
      · subst e; simp; omega
      · rw [if_neg e, hp i (by omega), List.getElem?_append_left (by omega)])
    simp only [setMany]
    rw [List.length_append] at this
    simp only [List.length_cons, List.length_nil, Nat.zero_add] at this
    rw [this, List.append_assoc]; rfl

theorem sort_world (blk off n : Nat) (d d' : Array Kb) (os : Array Obj) (hH : HoldsK encB 2 w blk off d) (hs : d'.size = d.size) :
    sortWorldK encB 2 w blk off n d' os = grow (Sort.ahead (w.setCells blk off (flatK encB 2 d').toList) n) os := by
  unfold sortWorldK putRowK
  rw [putRow_ahead]
  have h1 := setCells_putRow w blk off (flatK encB 2 d').toList 0 (flatK encB 2 d) (by simp [hs])
  rw [putRow_self _ _ _ _ _ hH] at h1
  rw [Nat.add_zero] at h1
  have h2 := setMany_all (flatK encB 2 d').toList [] (flatK encB 2 d) (by simp [hs]) (by simp)
  simp only [List.length_nil, List.nil_append, Array.toArray_toList] at h2
  rw [h1, h2]

theorem flat_get (d : Array Kb) (k : Nat) (x : Kb) (h : d[k]? = some x) : (flatK encB 2 d)[k * 2 + 0]! = .int .i64 x.1.1 ∧ (flatK encB 2 d)[k * 2 + 1]! = .int .i64 x.1.2 := by
  have hk : k < d.size := (Array.getElem?_eq_some_iff.1 h).1
  have hx : d[k]! = x := by rw [getElem!_pos d k hk]; exact (Array.getElem?_eq_some_iff.1 h).2
  rw [get_flatK _ _ _ _ (by omega), get_flatK _ _ _ _ (by omega)]
  rw [show (k * 2 + 0) / 2 = k by omega, show (k * 2 + 0) % 2 = 0 by omega, show (k * 2 + 1) / 2 = k by omega, show (k * 2 + 1) % 2 = 1 by omega, hx]
  exact ⟨rfl, rfl⟩

theorem to_kb : ∀ (l : List (Int × Int)), (∀ k ∈ l, 0 ≤ k.1 ∧ k.1 < 2 ^ 62 ∧ 0 ≤ k.2 ∧ k.2 < 2 ^ 62) → ∃ d : List Kb, d.map (·.1) = l
  | [], _ => ⟨[], rfl⟩
  | k :: l, h => by
    obtain ⟨d, hd⟩ := to_kb l fun k' hk' => h k' (List.mem_cons_of_mem _ hk')
    exact ⟨⟨k, h k List.mem_cons_self⟩ :: d, by rw [List.map_cons, hd]⟩

/-- slices.SortFunc on a row that is not empty. -/
theorem f151_some {g : Nat} (hg : CmpB g) (eg : ∀ args w, (callFunc g args).run Try.prog w = .ok (.enter g args) w) (l : List (Int × Int)) (hb : ∀ k ∈ l, 0 ≤ k.1 ∧ k.1 < 2 ^ 62 ∧ 0 ≤ k.2 ∧ k.2 < 2 ^ 62) (hl : l.length < 2 ^ 42) (hne : l ≠ []) (q : Int) (hq : q = l.length)
    (K E : AV → List Ent → Prop) (h : K .junk [.vec 2 ((l.mergeSort kle).map kav)]) : CallA Try.prog 151 [.vs 0 2 0 q q, .func g []] [.vec 2 (l.map kav)] K E := by
  refine ⟨⟨_, _, Try.func151, rfl, rfl⟩, fun ρ w vs hrel hvs => ?_⟩
  match vs, hvs with
  | [v, u], ⟨hv, hu, _⟩ =>
    obtain ⟨hpos, hfit, hblk, hel⟩ := hrel.ents 0 _ rfl
    obtain ⟨_, ad, len, cap, rfl, hlen, hcap, _, lo, hlo, hN, ha⟩ := val_vs hv
    obtain ⟨cs, rfl, hcs⟩ := val_func hu
    cases cs with
    | cons _ _ => exact hcs.elim
    | nil =>
      have hlo0 : lo = 0 := by omega
      subst hlo0
      have hpl : 0 < l.length := by cases l with | nil => exact absurd rfl hne | cons _ _ => simp
      obtain ⟨rfl, hend⟩ := ha hpos (by omega)
      obtain ⟨dl, hdl⟩ := to_kb l hb
      obtain ⟨d, hd⟩ : ∃ d : Array Kb, d.toList.map (·.1) = l := ⟨dl.toArray, hdl⟩
      have hds : d.size = l.length := by rw [← hd]; simp
      have hlend : len = d.size := by omega
      subst hlend
      rw [Nat.zero_mul, Nat.add_zero] at ha ⊢
      have hgl : ∀ (k : Nat) (x : Kb), d[k]? = some x → l[k]? = some x.1 := fun k x hx => by
        rw [← hd, List.getElem?_map, Array.getElem?_toList, hx]; rfl
      have hlm : (l.map kav).length = d.size := by simp [hds]
      rw [hlm] at hfit
      have hdp : 0 < d.size := by omega
      obtain ⟨c, e, f, hc, hcs', hfz⟩ := hblk (by omega)
      have hH : HoldsK encB 2 w (ρ.t 0).blk (ρ.t 0).start d := by
        intro j hj
        rw [size_flatK] at hj
        have hjk : j / 2 < d.size := by omega
        obtain ⟨x, hx⟩ : ∃ x, d[j / 2]? = some x := ⟨_, Array.getElem?_eq_getElem hjk⟩
        obtain ⟨vs, v1, v2, v3⟩ := hel (j / 2) (kav x.1) (by rw [List.getElem?_map, hgl _ _ hx]; rfl)
        obtain ⟨f0, f1⟩ := flat_get d _ x hx
        refine ⟨?_, hfz _ (by omega) (by omega)⟩
        match vs, v1 with
        | [a, b], ⟨ha1, hb1, _⟩ =>
          rw [val_int ha1, val_int hb1] at v3
          rcases Nat.mod_two_eq_zero_or_one j with hm | hm
          · have := (v3 0 _ rfl).1
            have e1 : (ρ.t 0).start + j / 2 * 2 + 0 = (ρ.t 0).start + j := by omega
            rw [e1] at this
            have e2 : j / 2 * 2 + 0 = j := by omega
            rw [e2] at f0
            rw [f0]; exact this
          · have := (v3 1 _ rfl).1
            have e1 : (ρ.t 0).start + j / 2 * 2 + 1 = (ρ.t 0).start + j := by omega
            rw [e1] at this
            have e2 : j / 2 * 2 + 1 = j := by omega
            rw [e2] at f1
            rw [f1]; exact this
      refine (sort_at hg eg (ρ.t 0).blk (ρ.t 0).start cap d w hH (lt_of_heap hc) (by omega)).mono ?_
      rintro e' w' ⟨rfl, d', n, os, hp, hs, rfl⟩
      rw [sort_world _ _ _ _ _ _ hH hp.1]
      have hso := sorted_is hd hp hs
      have hsl : (l.mergeSort kle).length = d.size := by rw [List.length_mergeSort]; exact hds.symm
      have hd's : d'.size = d.size := hp.1
      have hlay := rel_lay hrel (id := 0) (s := 2) (xs := l.map kav) (ys := (l.mergeSort kle).map kav) (p := 0) (news := (flatK encB 2 d').toList) rfl (Nat.zero_le _)
        (by rw [List.length_map, hsl]; omega) (by rw [List.length_map, hsl]; simp [hd's]) (fun u hu => ?_) (fun k y hy => ?_)
      · rw [Nat.zero_mul, Nat.add_zero, List.take_zero, List.nil_append, Nat.zero_add, List.drop_of_length_le (by simp [hsl, hds]), List.append_nil] at hlay
        have h2 := rel_ahead hlay.2 n
        have h3 := rel_grow h2.2 os.toList
        exact ⟨ρ, _, (hlay.1.trans' h2.1).trans' h3.1, h3.2, .junk, h, Val.junk⟩
      · obtain ⟨i, hi, rfl⟩ := List.getElem_of_mem hu
        have hi' : i < d'.size * 2 := by simpa using hi
        obtain ⟨x, hx⟩ : ∃ x, d'[i / 2]? = some x := ⟨_, Array.getElem?_eq_getElem (by omega)⟩
        obtain ⟨f0, f1⟩ := flat_get d' _ x hx
        have e0 : (flatK encB 2 d').toList[i] = (flatK encB 2 d')[i]! := by rw [getElem!_pos _ i (by simpa using hi)]; simp
        rw [e0]
        rcases Nat.mod_two_eq_zero_or_one i with hm | hm
        · rw [show i / 2 * 2 + 0 = i by omega] at f0; rw [f0]; rfl
        · rw [show i / 2 * 2 + 1 = i by omega] at f1; rw [f1]; rfl
      · rw [← hso, List.map_map, List.getElem?_map] at hy
        obtain ⟨x, hx, rfl⟩ := Option.map_eq_some_iff.1 hy
        rw [Array.getElem?_toList] at hx
        have hk : k < d'.size := (Array.getElem?_eq_some_iff.1 hx).1
        obtain ⟨f0, f1⟩ := flat_get d' _ x hx
        refine ⟨[.int .i64 x.1.1, .int .i64 x.1.2], ⟨⟨1, rfl⟩, ⟨1, rfl⟩, trivial⟩, rfl, fun j u hu => ?_⟩
        have hg' : ∀ i, i < d'.size * 2 → (flatK encB 2 d').toList[i]? = some (flatK encB 2 d')[i]! := fun i hi => by
          rw [Array.getElem?_toList, Array.getElem?_eq_getElem (by simpa using hi), getElem!_pos _ i (by simpa using hi)]
        match j, hu with
        | 0, hu => simp at hu; subst hu; rw [hg' _ (by omega), f0]
        | 1, hu => simp at hu; subst hu; rw [hg' _ (by omega), f1]
        | j + 2, hu => simp at hu
end
end Go.Proofs.Ytjdbmfipciadfaa.A
