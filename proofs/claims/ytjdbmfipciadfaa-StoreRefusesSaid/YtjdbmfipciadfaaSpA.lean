/- Stores: what they hold, and what each call does to that, as plain lists; small words. -/import Derived.Test.YtjdbmfipciadfaaMa4
import Derived.Test.YtjdbmfipciadfaaStMan
import Derived.Sort.Walk0
namespace Go.Proofs.Ytjdbmfipciadfaa.A
open Go Go.Pt
section
variable {α : Type}
theorem ifB_if {b : Bool} {x y : Option α} : ifB b x y = if b = true then x else y := by cases b <;> rfl
theorem lss_t {i n : Nat} (h : i < n) : stdOps.cmp .lss (i : Int) (n : Int) = true := by simp [stdOps]; omega
theorem lss_f {i n : Nat} (h : ¬ i < n) : stdOps.cmp .lss (i : Int) (n : Int) = false := by simp [stdOps]; omega
theorem add1 {i : Nat} (h : i < 2 ^ 60) : stdOps.ar .add .i64 (i : Int) 1 = ((i + 1 : Nat) : Int) := by simp only [stdOps]; rw [wr_i64 (by omega) (by omega)]; omega
theorem eql_is (a b : Int) : stdOps.cmp .eql a b = decide (a = b) := by
  by_cases h : a = b <;> simp [stdOps, h]
theorem len_is (l : List AV) : stdOps.len l = (l.length : Int) := rfl
theorem isNil_same {l : List AV} {n : Bool} {k : Bool → Option α} {r : Option α} (h0 : l = [] → k true = r) (h1 : k n = r) (h2 : l = [] → k false = r) : isNil l n k = r := by
  unfold isNil
  by_cases e : l = []
  · rw [if_pos e, if_pos ((h0 e).trans (h2 e).symm)]; exact h0 e
  · rw [if_neg e]; exact h1
theorem seq_is (a b : ByteArray) : stdOps.seq a b = decide (a = b) := by
  show (a.data == b.data) = decide (a = b)
  by_cases h : a = b
  · subst h; simp
  · have : ¬ a.data = b.data := fun e => h (ByteArray.ext e)
    simp [h, this]
end
instance : LawfulBEq ByteArray where
  eq_of_beq {a b} h := by
    have h' : (a.data == b.data) = true := h
    exact ByteArray.ext (by simpa using h')
  rfl {a} := by
    show (a.data == a.data) = true
    simp
def nlt (a b : ByteArray) : Prop := bl a < bl b
theorem toList_bl (b : ByteArray) : b.toList = bl b := by
  exact Go.ByteArray.toList_eq b
theorem scmp_is (a b : ByteArray) : stdOps.scmp .lss a b = decide (bl a < bl b) := by
  show Op.bytesLess a.toList b.toList = _
  rw [Go.Proofs.bytesLess_eq, toList_bl, toList_bl]
theorem bl_inj {a b : ByteArray} (h : bl a = bl b) : a = b := by rw [← lb_bl a, ← lb_bl b, h]
structure Pw where
  n : ByteArray
  i : Int
  b : List AV
def ov (b : List AV) (i : Nat) (x : List AV) : List AV := b.take i ++ x ++ b.drop (i + x.length)
theorem ov_length {b : List AV} {i : Nat} {x : List AV} (h : i ≤ b.length) : (ov b i x).length = max b.length (i + x.length) := by
  unfold ov; simp; omega
def seen1 (n : ByteArray) (b : List AV) (p : Pw) : List AV := if p.n = n then ov b p.i.toNat p.b else b
def seen (P : List Pw) (n : ByteArray) (b : List AV) : List AV := P.foldl (seen1 n) b
def okW : List Pw → ByteArray → List AV → Prop
  | [], _, _ => True
  | p :: P, n, b => (p.n = n → 0 ≤ p.i ∧ p.i ≤ b.length) ∧ okW P n (seen1 n b p)
theorem seen1_le {n : ByteArray} {b : List AV} {p : Pw} (h : p.n = n → 0 ≤ p.i ∧ p.i ≤ b.length) : b.length ≤ (seen1 n b p).length := by
  unfold seen1
  split
  · rename_i e
    have := h e
    rw [ov_length (by omega)]; omega
  · exact Nat.le_refl _
theorem seen_le {n : ByteArray} : ∀ {P : List Pw} {b : List AV}, okW P n b → b.length ≤ (seen P n b).length
  | [], _, _ => Nat.le_refl _
  | _ :: _, _, h => Nat.le_trans (seen1_le h.1) (seen_le h.2)
theorem seen_append {P Q : List Pw} {n : ByteArray} {b : List AV} : seen (P ++ Q) n b = seen Q n (seen P n b) := List.foldl_append
theorem okW_append {n : ByteArray} : ∀ {P Q : List Pw} {b : List AV}, okW (P ++ Q) n b ↔ okW P n b ∧ okW Q n (seen P n b)
  | [], Q, b => by simp [okW, seen]
  | p :: P, Q, b => by
    have := okW_append (P := P) (Q := Q) (b := seen1 n b p) (n := n)
    simp only [List.cons_append, okW, this, and_assoc]
    rfl
theorem seen_none {n : ByteArray} : ∀ {P : List Pw} {b : List AV}, (∀ p ∈ P, p.n ≠ n) → seen P n b = b ∧ okW P n b
  | [], _, _ => ⟨rfl, trivial⟩
  | p :: P, b, h => by
    have h1 : seen1 n b p = b := if_neg (h p List.mem_cons_self)
    have h2 := seen_none (P := P) (b := b) (n := n) fun q hq => h q (List.mem_cons_of_mem _ hq)
    exact ⟨by show seen P n (seen1 n b p) = b; rw [h1]; exact h2.1, fun e => absurd e (h p List.mem_cons_self), by rw [h1]; exact h2.2⟩
structure Mo where
  L : List (ByteArray × List AV)
  P : List Pw
  most : Int
  down : Bool
def Mo.names (m : Mo) : List ByteArray := m.L.map Prod.fst
def Mo.get (m : Mo) (n : ByteArray) : Option (List AV) := (m.L.find? fun x => decide (x.1 = n)).map Prod.snd
def Mo.sure (m : Mo) (n : ByteArray) : List AV := (m.get n).getD []
def Mo.all (m : Mo) (n : ByteArray) : List AV := seen m.P n (m.sure n)
def Mo.used (m : Mo) : Nat := (m.L.map fun x => (seen m.P x.1 x.2).length).sum
def Mo.left (m : Mo) : Int := m.most - m.used
structure Iv (m : Mo) : Prop where
  m0 : 0 ≤ m.most
  m1 : m.most ≤ 4194304
  sorted : m.L.Pairwise fun a b => nlt a.1 b.1
  max : m.L.length ≤ 4096
  ok : ∀ x ∈ m.L, okW m.P x.1 x.2
  pn : ∀ p ∈ m.P, p.n ∈ m.names
  pb : ∀ p ∈ m.P, p.b.length ≤ 2 ^ 23 ∧ 0 < p.b.length
  left : (m.used : Int) ≤ m.most
theorem nlt_irrefl (a : ByteArray) : ¬ nlt a a := List.lt_irrefl _
theorem nlt_trans {a b c : ByteArray} (h : nlt a b) (h' : nlt b c) : nlt a c := List.lt_trans h h'
theorem sorted_nodup {L : List (ByteArray × List AV)} (h : L.Pairwise fun a b => nlt a.1 b.1) : (L.map Prod.fst).Nodup := by
  rw [List.nodup_iff_pairwise_ne, List.pairwise_map]
  refine h.imp ?_
  intro a b hab e
  rw [e] at hab
  exact nlt_irrefl _ hab
theorem Iv.nodup {m : Mo} (h : Iv m) : m.names.Nodup := sorted_nodup h.sorted
theorem find_of_mem {L : List (ByteArray × List AV)} : (L.map Prod.fst).Nodup → ∀ x ∈ L, (L.find? fun y => decide (y.1 = x.1)) = some x := by
  induction L with
  | nil => intro _ x hx; cases hx
  | cons y L ih =>
    intro hn x hx
    rw [List.map_cons, List.nodup_cons] at hn
    rcases List.mem_cons.1 hx with rfl | hx
    · simp
    · rw [List.find?_cons_of_neg (by
        intro e
        rw [decide_eq_true_eq] at e
        exact hn.1 (e ▸ List.mem_map_of_mem hx))]
      exact ih hn.2 x hx
theorem Mo.get_of {m : Mo} (hn : m.names.Nodup) {n : ByteArray} {b : List AV} (h : (n, b) ∈ m.L) : m.get n = some b := by
  unfold Mo.get
  rw [find_of_mem hn (n, b) h]; rfl
theorem Mo.sure_of {m : Mo} (hn : m.names.Nodup) {n : ByteArray} {b : List AV} (h : (n, b) ∈ m.L) : m.sure n = b := by
  unfold Mo.sure
  rw [Mo.get_of hn h]; rfl
theorem Mo.mem_sure {m : Mo} (hn : m.names.Nodup) {n : ByteArray} (h : n ∈ m.names) : (n, m.sure n) ∈ m.L := by
  obtain ⟨x, hx, rfl⟩ := List.mem_map.1 h
  rw [Mo.sure_of (b := x.2) hn hx]; exact hx
theorem sum_ge {β : Type} {f : β → Nat} {l : List β} {x : β} (h : x ∈ l) : f x ≤ (l.map f).sum := by
  induction l with
  | nil => cases h
  | cons y l ih =>
    rw [List.map_cons, List.sum_cons]
    rcases List.mem_cons.1 h with rfl | h
    · omega
    · have := ih h; omega
theorem Iv.seen_le {m : Mo} (h : Iv m) {x : ByteArray × List AV} (hx : x ∈ m.L) : (seen m.P x.1 x.2).length ≤ 2 ^ 22 := by
  have h1 := sum_ge (f := fun x : ByteArray × List AV => (seen m.P x.1 x.2).length) hx
  have h2 := h.left
  have h3 := h.m1
  simp only [Mo.used] at h2
  omega
theorem Iv.all_le {m : Mo} (h : Iv m) {n : ByteArray} (hn : n ∈ m.names) : (m.all n).length ≤ 2 ^ 22 := h.seen_le (Mo.mem_sure h.nodup hn)
theorem Iv.sure_le {m : Mo} (h : Iv m) {n : ByteArray} (hn : n ∈ m.names) : (m.sure n).length ≤ 2 ^ 22 :=
  Nat.le_trans (A.seen_le (h.ok _ (Mo.mem_sure h.nodup hn))) (h.all_le hn)
end Go.Proofs.Ytjdbmfipciadfaa.A
