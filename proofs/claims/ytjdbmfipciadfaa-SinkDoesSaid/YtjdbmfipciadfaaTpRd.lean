/- How the arguments of the laws of the sink are read. -/
import Derived.Test.YtjdbmfipciadfaaTpE
import Derived.Test.YtjdbmfipciadfaaMa2
import Derived.Test.YtjdbmfipciadfaaMa3
import Derived.Test.YtjdbmfipciadfaaProg
import Derived.ProofKit

namespace Go.Proofs.Ytjdbmfipciadfaa.A
open Go Go.Pt Go.ChangeShapes Go.WideShapes Go.ChangeAt Go.RowKit

def In64 (n : Int) : Prop := -9223372036854775808 ≤ n ∧ n ≤ 9223372036854775807
theorem wf64 {n : Int} (h : (Lit.int .i64 n).wf = true) : In64 n := by
  simp only [Lit.wf, Bool.and_eq_true, decide_eq_true_eq] at h
  have h1 : IntKind.i64.min = -9223372036854775808 := by decide
  have h2 : IntKind.i64.max = 9223372036854775807 := by decide
  rw [h1, h2] at h
  exact h
theorem rdRec : Rd Try.prog 57 Rec Rec.av (fun _ => True) :=
  rd_conv (rd_struct Try.underlying57 (rdf_cons rfl (rd_int Try.underlying2) (rdf_cons (by kernel_rfl) (rd_int Try.underlying2) (rdf_end (by kernel_rfl)))))
    (fun x => ⟨x.1, x.2.1⟩) (fun _ => rfl) (fun _ _ => trivial)
theorem rdRecs : Rd Try.prog 28 (List Rec) (fun l => .sl 2 (l.map Rec.av) .no) (fun l => (∀ x ∈ l, True) ∧ l.length * Try.prog.bytesOf 57 ≤ reachBytes) := rd_slice Try.underlying28 (by kernel_rfl) (by decide) rdRec
theorem rdVec : Rd Try.prog 29 (List Int) (fun l => .sl 1 (l.map iav) .no) (fun l => (∀ x ∈ l, (Lit.int .i64 x).wf = true) ∧ l.length * Try.prog.bytesOf 2 ≤ reachBytes) := rd_slice Try.underlying29 (by kernel_rfl) (by decide) (rd_int Try.underlying2)
theorem rdTxn : Rd Try.prog 31 Txn Txn.av (fun t => t.v.length * Try.prog.bytesOf 2 ≤ reachBytes) :=
  rd_conv (rd_struct Try.underlying31 (rdf_cons rfl (rd_int Try.underlying2) (rdf_cons (by kernel_rfl) (rd_int Try.underlying2) (rdf_cons (by kernel_rfl) (rd_int Try.underlying2) (rdf_cons (by kernel_rfl) rdRecs (rdf_cons (by kernel_rfl) rdVec (rdf_end (by kernel_rfl))))))))
    (fun x => ⟨x.1, x.2.1, x.2.2.1, x.2.2.2.1, x.2.2.2.2.1⟩) (fun _ => rfl) (fun _ h => h.2.2.2.2.1.2)
theorem rdSOp : Rd Try.prog 33 SOp SOp.av (fun o => o.t.v.length * Try.prog.bytesOf 2 ≤ reachBytes) :=
  rd_conv (rd_struct Try.underlying33 (rdf_cons rfl (rd_int Try.underlying3) (rdf_cons (by kernel_rfl) rdTxn (rdf_end (by kernel_rfl)))))
    (fun x => ⟨x.1, x.2.1⟩) (fun _ => rfl) (fun _ h => h.2.1)
theorem rdSOps : Rd Try.prog 22 (List SOp) (fun l => .sl 6 (l.map SOp.av) .no) (fun l => (∀ o ∈ l, o.t.v.length * Try.prog.bytesOf 2 ≤ reachBytes) ∧ l.length * Try.prog.bytesOf 33 ≤ reachBytes) := rd_slice Try.underlying22 (by kernel_rfl) (by decide) rdSOp

def vmax (l : List SOp) : Nat := (l.map fun o => o.t.v.length).sum
theorem vmax_le {l : List SOp} {o : SOp} (h : o ∈ l) : o.t.v.length ≤ vmax l := by
  induction l with
  | nil => cases h
  | cons x l ih =>
    rcases List.mem_cons.1 h with rfl | h
    · simp [vmax]
    · have := ih h; simp only [vmax, List.map_cons, List.sum_cons] at *; omega
theorem vecs_small {l : List SOp} (h : ∀ o ∈ l, o.t.v.length * Try.prog.bytesOf 2 ≤ reachBytes) : ∀ o ∈ l, o.t.v.length < 2 ^ 60 := by
  rw [show Try.prog.bytesOf 2 = 8 by kernel_rfl] at h
  unfold reachBytes at h
  intro o ho
  have := h o ho
  omega

theorem own : ownKnob Try.prog.godebug = none := by kernel_rfl
theorem laidOut : laidOutB Try.prog = true := by kernel_rfl
end Go.Proofs.Ytjdbmfipciadfaa.A
