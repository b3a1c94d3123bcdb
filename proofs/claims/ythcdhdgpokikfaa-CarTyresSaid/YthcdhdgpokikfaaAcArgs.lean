/- The arguments of the car's laws, as data. -/
import Derived.Test.YthcdhdgpokikfaaAcPlan
import Derived.Test.YthcdhdgpokikfaaAmM3
open Go.Proofs
namespace Go.AM.Car
set_option maxRecDepth 10000
def ok_leg (x : Leg) : Prop := fits (x.1) ∧ fits (x.2) ∧ fits (x.3)
theorem leg_sh {m : Nat} {cs : List Cell} (h : Sh Try.prog (m + 2) 57 cs) : ∃ x : Leg, cs = legC x ∧ ok_leg x := by
  have hl := sh_len Try.underlying57 h (n := 3) (by kernel_rfl)
  obtain ⟨x0, e0, q0⟩ := sh_int (m := m + 0) (sh_f Try.underlying57 h 0 rfl (n := 1) (by kernel_rfl))
  replace e0 : (cs.drop 0).take 1 = [cint x0] := e0
  obtain ⟨x1, e1, q1⟩ := sh_int (m := m + 0) (sh_f Try.underlying57 h 1 rfl (n := 1) (by kernel_rfl))
  replace e1 : (cs.drop 1).take 1 = [cint x1] := e1
  obtain ⟨x2, e2, q2⟩ := sh_int (m := m + 0) (sh_f Try.underlying57 h 2 rfl (n := 1) (by kernel_rfl))
  replace e2 : (cs.drop 2).take 1 = [cint x2] := e2
  have key := ((cut (cs := cs) 0 1).trans (congrArg _ ((cut (cs := cs) 1 1).trans (congrArg _ (cut (cs := cs) 2 1)))))
  rw [e0, e1, e2] at key
  have hd : cs.drop 3 = [] := List.drop_of_length_le (by omega)
  refine ⟨⟨x0, x1, x2⟩, ?_, q0, q1, q2⟩
  exact key.trans (by simp only [Nat.reduceAdd] at *; show _ = _; rw [hd]; rfl)
def ok_legs (l : List (Leg)) : Prop := l.length ≤ 9223372036854775807 ∧ ∀ x ∈ l, ok_leg x
theorem legs_sh {m : Nat} {cs : List Cell} (h : Sh Try.prog (m + 3) 44 cs) : ∃ l : List (Leg), cs = [.lst 3 (l.map legC)] ∧ ok_legs l := by
  obtain ⟨l, h1, h2, h3⟩ := sh_list (enc := legC) (Q := ok_leg) (e := 57) (sz := 3) h (fun r hr => let ⟨x, h1, h2⟩ := leg_sh (m := m) hr; ⟨x, h1, h2⟩) (by kernel_rfl)
  exact ⟨l, h1, h2, h3⟩
def ok_ints (l : List (Int)) : Prop := l.length ≤ 9223372036854775807 ∧ ∀ x ∈ l, fits x
theorem ints_sh {m : Nat} {cs : List Cell} (h : Sh Try.prog (m + 2) 23 cs) : ∃ l : List (Int), cs = [.lst 1 (l.map intC)] ∧ ok_ints l := by
  obtain ⟨l, h1, h2, h3⟩ := sh_list (enc := intC) (Q := fits) (e := 3) (sz := 1) h (fun r hr => let ⟨n, h1, h2⟩ := sh_int hr; ⟨n, h1, h2⟩) (by kernel_rfl)
  exact ⟨l, h1, h2, h3⟩
def ok_knot (x : (Int×Int)) : Prop := fits (x.1) ∧ fits (x.2)
theorem knot_sh {m : Nat} {cs : List Cell} (h : Sh Try.prog (m + 2) 131 cs) : ∃ x : (Int×Int), cs = knotC x ∧ ok_knot x := by
  have hl := sh_len Try.underlying131 h (n := 2) (by kernel_rfl)
  obtain ⟨x0, e0, q0⟩ := sh_int (m := m + 0) (sh_f Try.underlying131 h 0 rfl (n := 1) (by kernel_rfl))
  replace e0 : (cs.drop 0).take 1 = [cint x0] := e0
  obtain ⟨x1, e1, q1⟩ := sh_int (m := m + 0) (sh_f Try.underlying131 h 1 rfl (n := 1) (by kernel_rfl))
  replace e1 : (cs.drop 1).take 1 = [cint x1] := e1
  have key := ((cut (cs := cs) 0 1).trans (congrArg _ (cut (cs := cs) 1 1)))
  rw [e0, e1] at key
  have hd : cs.drop 2 = [] := List.drop_of_length_le (by omega)
  refine ⟨⟨x0, x1⟩, ?_, q0, q1⟩
  exact key.trans (by simp only [Nat.reduceAdd] at *; show _ = _; rw [hd]; rfl)
def ok_knots (l : List ((Int×Int))) : Prop := l.length ≤ 9223372036854775807 ∧ ∀ x ∈ l, ok_knot x
theorem knots_sh {m : Nat} {cs : List Cell} (h : Sh Try.prog (m + 3) 87 cs) : ∃ l : List ((Int×Int)), cs = [.lst 2 (l.map knotC)] ∧ ok_knots l := by
  obtain ⟨l, h1, h2, h3⟩ := sh_list (enc := knotC) (Q := ok_knot) (e := 131) (sz := 2) h (fun r hr => let ⟨x, h1, h2⟩ := knot_sh (m := m) hr; ⟨x, h1, h2⟩) (by kernel_rfl)
  exact ⟨l, h1, h2, h3⟩
def ok_grips (l : List (List ((Int×Int)))) : Prop := l.length ≤ 9223372036854775807 ∧ ∀ x ∈ l, ok_knots x
theorem grips_sh {m : Nat} {cs : List Cell} (h : Sh Try.prog (m + 4) 22 cs) : ∃ l : List (List ((Int×Int))), cs = [.lst 1 (l.map (fun l => [Cell.lst 2 (l.map knotC)]))] ∧ ok_grips l := by
  obtain ⟨l, h1, h2, h3⟩ := sh_list (enc := (fun l => [Cell.lst 2 (l.map knotC)])) (Q := ok_knots) (e := 87) (sz := 1) h (fun r hr => let ⟨x, h1, h2⟩ := knots_sh (m := m) hr; ⟨x, h1, h2⟩) (by kernel_rfl)
  exact ⟨l, h1, h2, h3⟩
def ok_comp (x : Compound) : Prop := ok_grips (x.1) ∧ ok_grips (x.2) ∧ ok_ints (x.3) ∧ fits (x.4)
theorem comp_sh {m : Nat} {cs : List Cell} (h : Sh Try.prog (m + 5) 25 cs) : ∃ x : Compound, cs = Compound.cells x ∧ ok_comp x := by
  have hl := sh_len Try.underlying25 h (n := 4) (by kernel_rfl)
  obtain ⟨x0, e0, q0⟩ := grips_sh (m := m + 0) (sh_f Try.underlying25 h 0 rfl (n := 1) (by kernel_rfl))
  replace e0 : (cs.drop 0).take 1 = (fun l => [Cell.lst 1 (l.map (fun l => [Cell.lst 2 (l.map knotC)]))]) x0 := e0
  obtain ⟨x1, e1, q1⟩ := grips_sh (m := m + 0) (sh_f Try.underlying25 h 1 rfl (n := 1) (by kernel_rfl))
  replace e1 : (cs.drop 1).take 1 = (fun l => [Cell.lst 1 (l.map (fun l => [Cell.lst 2 (l.map knotC)]))]) x1 := e1
  obtain ⟨x2, e2, q2⟩ := ints_sh (m := m + 2) (sh_f Try.underlying25 h 2 rfl (n := 1) (by kernel_rfl))
  replace e2 : (cs.drop 2).take 1 = (fun l => [Cell.lst 1 (l.map intC)]) x2 := e2
  obtain ⟨x3, e3, q3⟩ := sh_int (m := m + 3) (sh_f Try.underlying25 h 3 rfl (n := 1) (by kernel_rfl))
  replace e3 : (cs.drop 3).take 1 = [cint x3] := e3
  have key := ((cut (cs := cs) 0 1).trans (congrArg _ ((cut (cs := cs) 1 1).trans (congrArg _ ((cut (cs := cs) 2 1).trans (congrArg _ (cut (cs := cs) 3 1)))))))
  rw [e0, e1, e2, e3] at key
  have hd : cs.drop 4 = [] := List.drop_of_length_le (by omega)
  refine ⟨⟨x0, x1, x2, x3⟩, ?_, q0, q1, q2, q3⟩
  exact key.trans (by simp only [Nat.reduceAdd] at *; show _ = _; rw [hd]; rfl)
def ok_comps (l : List (Compound)) : Prop := l.length ≤ 9223372036854775807 ∧ ∀ x ∈ l, ok_comp x
theorem comps_sh {m : Nat} {cs : List Cell} (h : Sh Try.prog (m + 6) 33 cs) : ∃ l : List (Compound), cs = [.lst 4 (l.map Compound.cells)] ∧ ok_comps l := by
  obtain ⟨l, h1, h2, h3⟩ := sh_list (enc := Compound.cells) (Q := ok_comp) (e := 25) (sz := 4) h (fun r hr => let ⟨x, h1, h2⟩ := comp_sh (m := m) hr; ⟨x, h1, h2⟩) (by kernel_rfl)
  exact ⟨l, h1, h2, h3⟩
def ok_str (x : Stretch) : Prop := fits (x.1) ∧ fits (x.2) ∧ fits (x.3)
theorem str_sh {m : Nat} {cs : List Cell} (h : Sh Try.prog (m + 2) 90 cs) : ∃ x : Stretch, cs = strC x ∧ ok_str x := by
  have hl := sh_len Try.underlying90 h (n := 4) (by kernel_rfl)
  obtain ⟨x0, e0, q0⟩ := sh_int (m := m + 0) (sh_f Try.underlying90 h 0 rfl (n := 1) (by kernel_rfl))
  replace e0 : (cs.drop 0).take 1 = [cint x0] := e0
  obtain ⟨x1, e1, q1⟩ := sh_int (m := m + 0) (sh_f Try.underlying90 h 1 rfl (n := 1) (by kernel_rfl))
  replace e1 : (cs.drop 1).take 1 = [cint x1] := e1
  obtain ⟨x2, e2, q2⟩ := sh_int (m := m + 0) (sh_f Try.underlying90 h 2 rfl (n := 1) (by kernel_rfl))
  replace e2 : (cs.drop 2).take 1 = [cint x2] := e2
  obtain ⟨x3, e3⟩ := sh_bool (m := m + 0) (sh_f Try.underlying90 h 3 rfl (n := 1) (by kernel_rfl))
  replace e3 : (cs.drop 3).take 1 = [cbool x3] := e3
  have key := ((cut (cs := cs) 0 1).trans (congrArg _ ((cut (cs := cs) 1 1).trans (congrArg _ ((cut (cs := cs) 2 1).trans (congrArg _ (cut (cs := cs) 3 1)))))))
  rw [e0, e1, e2, e3] at key
  have hd : cs.drop 4 = [] := List.drop_of_length_le (by omega)
  refine ⟨⟨x0, x1, x2, x3⟩, ?_, q0, q1, q2⟩
  exact key.trans (by simp only [Nat.reduceAdd] at *; show _ = _; rw [hd]; rfl)
def ok_strs (l : List (Stretch)) : Prop := l.length ≤ 9223372036854775807 ∧ ∀ x ∈ l, ok_str x
theorem strs_sh {m : Nat} {cs : List Cell} (h : Sh Try.prog (m + 3) 60 cs) : ∃ l : List (Stretch), cs = [.lst 4 (l.map strC)] ∧ ok_strs l := by
  obtain ⟨l, h1, h2, h3⟩ := sh_list (enc := strC) (Q := ok_str) (e := 90) (sz := 4) h (fun r hr => let ⟨x, h1, h2⟩ := str_sh (m := m) hr; ⟨x, h1, h2⟩) (by kernel_rfl)
  exact ⟨l, h1, h2, h3⟩
def ok_loops (l : List (List (Stretch))) : Prop := l.length ≤ 9223372036854775807 ∧ ∀ x ∈ l, ok_strs x
theorem loops_sh {m : Nat} {cs : List Cell} (h : Sh Try.prog (m + 4) 34 cs) : ∃ l : List (List (Stretch)), cs = [.lst 1 (l.map (fun l => [Cell.lst 4 (l.map strC)]))] ∧ ok_loops l := by
  obtain ⟨l, h1, h2, h3⟩ := sh_list (enc := (fun l => [Cell.lst 4 (l.map strC)])) (Q := ok_strs) (e := 60) (sz := 1) h (fun r hr => let ⟨x, h1, h2⟩ := strs_sh (m := m) hr; ⟨x, h1, h2⟩) (by kernel_rfl)
  exact ⟨l, h1, h2, h3⟩
def ok_plan (x : Plan) : Prop := ok_ints (x.1) ∧ ok_ints (x.2) ∧ fits (x.3)
theorem plan_sh {m : Nat} {cs : List Cell} (h : Sh Try.prog (m + 3) 37 cs) : ∃ x : Plan, cs = planC x ∧ ok_plan x := by
  have hl := sh_len Try.underlying37 h (n := 3) (by kernel_rfl)
  obtain ⟨x0, e0, q0⟩ := ints_sh (m := m + 0) (sh_f Try.underlying37 h 0 rfl (n := 1) (by kernel_rfl))
  replace e0 : (cs.drop 0).take 1 = (fun l => [Cell.lst 1 (l.map intC)]) x0 := e0
  obtain ⟨x1, e1, q1⟩ := ints_sh (m := m + 0) (sh_f Try.underlying37 h 1 rfl (n := 1) (by kernel_rfl))
  replace e1 : (cs.drop 1).take 1 = (fun l => [Cell.lst 1 (l.map intC)]) x1 := e1
  obtain ⟨x2, e2, q2⟩ := sh_int (m := m + 1) (sh_f Try.underlying37 h 2 rfl (n := 1) (by kernel_rfl))
  replace e2 : (cs.drop 2).take 1 = [cint x2] := e2
  have key := ((cut (cs := cs) 0 1).trans (congrArg _ ((cut (cs := cs) 1 1).trans (congrArg _ (cut (cs := cs) 2 1)))))
  rw [e0, e1, e2] at key
  have hd : cs.drop 3 = [] := List.drop_of_length_le (by omega)
  refine ⟨⟨x0, x1, x2⟩, ?_, q0, q1, q2⟩
  exact key.trans (by simp only [Nat.reduceAdd] at *; show _ = _; rw [hd]; rfl)
end Go.AM.Car
