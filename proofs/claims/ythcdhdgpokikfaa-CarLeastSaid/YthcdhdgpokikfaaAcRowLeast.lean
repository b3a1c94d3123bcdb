/- CarLeast answers true at every input. -/
import Derived.Test.YthcdhdgpokikfaaRows
import Derived.Test.YthcdhdgpokikfaaAcLLeast
import Derived.Test.YthcdhdgpokikfaaAcArgs
open Go.AM Go.AM.Car
namespace Go.Proofs.Ythcdhdgpokikfaa
set_option maxRecDepth 100000
theorem own : ownKnob Try.prog.godebug = none := by kernel_rfl
theorem laidOut : laidOutB Try.prog = true := by kernel_rfl
theorem carLeast_lifted (os : Os) (started : os.Started) (H : Type) (enc : TypeId × Value → H) :
    ReturnsInHanded {} Try.checked os 8 .any (Rows.carLeastSpec.pre6 enc Try.prog Try.f8 Rows.carLeastRow.domain false) (Rows.carLeastSpec.post enc Try.prog Try.f8 false true false false) := by
  refine law_lifted (C := Try.checked) (m := 10) (tb := 4) prog_ok prog_mixed laidOut own started (by kernel_rfl) Try.func8 (ChangeSpec.witness6 (enc := enc) (C := Try.checked) false ⟨#[], #[.int .i64 0, .int .i64 0, .int .i64 0, .slice none 0 0, .slice none 0 0, .slice none 0 0], []⟩ 8 (by kernel_rfl) (by kernel_rfl) (by kernel_rfl) (by kernel_rfl)) rfl rfl Try.underlying4 (by kernel_rfl) ?_ ?_
  · intro ds h
    match ds, h with
    | [d0, d1, d2, d3, d4, d5], _ => exact ⟨rfl, rfl, rfl⟩
  · intro avs h
    replace h : Args Try.prog 10 [3, 3, 3, 44, 23, 23] avs := h
    obtain ⟨a0, avs, rfl, h0, h⟩ := args_cons h
    obtain ⟨a1, avs, rfl, h1, h⟩ := args_cons h
    obtain ⟨a2, avs, rfl, h2, h⟩ := args_cons h
    obtain ⟨a3, avs, rfl, h3, h⟩ := args_cons h
    obtain ⟨a4, avs, rfl, h4, h⟩ := args_cons h
    obtain ⟨a5, avs, rfl, h5, h⟩ := args_cons h
    obtain rfl := args_nil h
    obtain ⟨tank, rfl, q0⟩ := arg_int h0 (by kernel_rfl)
    obtain ⟨reserve, rfl, q1⟩ := arg_int h1 (by kernel_rfl)
    obtain ⟨start, rfl, q2⟩ := arg_int h2 (by kernel_rfl)
    obtain ⟨l, rfl, q3⟩ := arg_sl h3 (by kernel_rfl) legs_sh
    obtain ⟨b, rfl, q4⟩ := arg_sl h4 (by kernel_rfl) ints_sh
    obtain ⟨mix, rfl, q5⟩ := arg_sl h5 (by kernel_rfl) ints_sh
    exact (lawLeast tank reserve start HZ q3.1 q4.1 q5.1).any
theorem carLeast_holds : Rows.CarLeastSaid :=
  OpenClaim.holds_of_wide 8 Try.f8 rfl rfl rfl rfl rfl rfl rfl ⟨rfl, rfl, rfl, rfl, rfl⟩ rfl rfl rfl rfl rfl (by kernel_rfl) Try.func8 (by kernel_rfl)
    (of_decide_eq_true (by kernel_rfl)) (by unfold Func.isWrapper; first | (rw [if_pos (by decide +kernel)]; kernel_rfl) | (rw [if_neg (by decide +kernel)]; exact ⟨rfl, rfl⟩))
    (fun os started H enc _ => carLeast_lifted os started H enc)
#print axioms carLeast_holds
end Go.Proofs.Ythcdhdgpokikfaa
