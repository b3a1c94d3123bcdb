/- CarTyres answers true at every input. -/
import Derived.Test.YthcdhdgpokikfaaRows
import Derived.Test.YthcdhdgpokikfaaAcLTyres
import Derived.Test.YthcdhdgpokikfaaAcArgs
open Go.AM Go.AM.Car
namespace Go.Proofs.Ythcdhdgpokikfaa
set_option maxRecDepth 100000
theorem own : ownKnob Try.prog.godebug = none := by kernel_rfl
theorem laidOut : laidOutB Try.prog = true := by kernel_rfl
theorem carTyres_lifted (os : Os) (started : os.Started) (H : Type) (enc : TypeId × Value → H) :
    ReturnsInHanded {} Try.checked os 4 .any (Rows.carTyresSpec.pre6 enc Try.prog Try.f4 Rows.carTyresRow.domain false) (Rows.carTyresSpec.post enc Try.prog Try.f4 false true false false) := by
  refine law_lifted (C := Try.checked) (m := 10) (tb := 4) prog_ok prog_mixed laidOut own started (by kernel_rfl) Try.func4 (ChangeSpec.witness6 (enc := enc) (C := Try.checked) false ⟨#[], #[.slice none 0 0, .slice none 0 0, .int .i64 0], []⟩ 8 (by kernel_rfl) (by kernel_rfl) (by kernel_rfl) (by kernel_rfl)) rfl rfl Try.underlying4 (by kernel_rfl) ?_ ?_
  · intro ds h
    match ds, h with
    | [d0, d1, d2], _ => exact ⟨rfl, rfl, rfl⟩
  · intro avs h
    replace h : Args Try.prog 10 [33, 34, 3] avs := h
    obtain ⟨a0, avs, rfl, h0, h⟩ := args_cons h
    obtain ⟨a1, avs, rfl, h1, h⟩ := args_cons h
    obtain ⟨a2, avs, rfl, h2, h⟩ := args_cons h
    obtain rfl := args_nil h
    obtain ⟨cs, rfl, q0⟩ := arg_sl h0 (by kernel_rfl) comps_sh
    obtain ⟨ls, rfl, q1⟩ := arg_sl h1 (by kernel_rfl) loops_sh
    obtain ⟨al, rfl, q2⟩ := arg_int h2 (by kernel_rfl)
    exact (lawTyres cs ls al HZ).any
theorem carTyres_holds : Rows.CarTyresSaid :=
  OpenClaim.holds_of_wide 4 Try.f4 rfl rfl rfl rfl rfl rfl rfl ⟨rfl, rfl, rfl, rfl, rfl⟩ rfl rfl rfl rfl rfl (by kernel_rfl) Try.func4 (by kernel_rfl)
    (of_decide_eq_true (by kernel_rfl)) (by unfold Func.isWrapper; first | (rw [if_pos (by decide +kernel)]; kernel_rfl) | (rw [if_neg (by decide +kernel)]; exact ⟨rfl, rfl⟩))
    (fun os started H enc _ => carTyres_lifted os started H enc)
#print axioms carTyres_holds
end Go.Proofs.Ythcdhdgpokikfaa
