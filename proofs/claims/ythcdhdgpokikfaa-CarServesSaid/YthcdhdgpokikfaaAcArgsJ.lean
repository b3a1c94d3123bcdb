/- Jobs as arguments. -/
import Derived.Test.YthcdhdgpokikfaaAcJobs
import Derived.Test.YthcdhdgpokikfaaAmM3
open Go.Proofs
namespace Go.AM.Car
set_option maxRecDepth 10000
def ok_ints (l : List (Int)) : Prop := l.length ≤ 9223372036854775807 ∧ ∀ x ∈ l, fits x
theorem ints_sh {m : Nat} {cs : List Cell} (h : Sh Try.prog (m + 2) 23 cs) : ∃ l : List (Int), cs = [.lst 1 (l.map intC)] ∧ ok_ints l := by
  obtain ⟨l, h1, h2, h3⟩ := sh_list (enc := intC) (Q := fits) (e := 3) (sz := 1) h (fun r hr => let ⟨n, h1, h2⟩ := sh_int hr; ⟨n, h1, h2⟩) (by kernel_rfl)
  exact ⟨l, h1, h2, h3⟩
def ok_job (x : Job) : Prop := fits (x.1) ∧ fits (x.2) ∧ ok_ints (x.4)
theorem job_sh {m : Nat} {cs : List Cell} (h : Sh Try.prog (m + 3) 92 cs) : ∃ x : Job, cs = jobC x ∧ ok_job x := by
  have hl := sh_len Try.underlying92 h (n := 4) (by kernel_rfl)
  obtain ⟨x0, e0, q0⟩ := sh_int (m := m + 1) (sh_f Try.underlying92 h 0 rfl (n := 1) (by kernel_rfl))
  replace e0 : (cs.drop 0).take 1 = [cint x0] := e0
  obtain ⟨x1, e1, q1⟩ := sh_int (m := m + 1) (sh_f Try.underlying92 h 1 rfl (n := 1) (by kernel_rfl))
  replace e1 : (cs.drop 1).take 1 = [cint x1] := e1
  obtain ⟨x2, e2⟩ := sh_bool (m := m + 1) (sh_f Try.underlying92 h 2 rfl (n := 1) (by kernel_rfl))
  replace e2 : (cs.drop 2).take 1 = [cbool x2] := e2
  obtain ⟨x3, e3, q3⟩ := ints_sh (m := m + 0) (sh_f Try.underlying92 h 3 rfl (n := 1) (by kernel_rfl))
  replace e3 : (cs.drop 3).take 1 = (fun l => [Cell.lst 1 (l.map intC)]) x3 := e3
  have key := ((cut (cs := cs) 0 1).trans (congrArg _ ((cut (cs := cs) 1 1).trans (congrArg _ ((cut (cs := cs) 2 1).trans (congrArg _ (cut (cs := cs) 3 1)))))))
  rw [e0, e1, e2, e3] at key
  have hd : cs.drop 4 = [] := List.drop_of_length_le (by omega)
  refine ⟨⟨x0, x1, x2, x3⟩, ?_, q0, q1, q3⟩
  exact key.trans (by simp only [Nat.reduceAdd] at *; show _ = _; rw [hd]; rfl)
def ok_jobs (l : List (Job)) : Prop := l.length ≤ 9223372036854775807 ∧ ∀ x ∈ l, ok_job x
theorem jobs_sh {m : Nat} {cs : List Cell} (h : Sh Try.prog (m + 4) 50 cs) : ∃ l : List (Job), cs = [.lst 4 (l.map jobC)] ∧ ok_jobs l := by
  obtain ⟨l, h1, h2, h3⟩ := sh_list (enc := jobC) (Q := ok_job) (e := 92) (sz := 4) h (fun r hr => let ⟨x, h1, h2⟩ := job_sh (m := m) hr; ⟨x, h1, h2⟩) (by kernel_rfl)
  exact ⟨l, h1, h2, h3⟩
end Go.AM.Car
