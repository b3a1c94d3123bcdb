/- CarPieces answers true at every input. -/
import Derived.Test.YthcdhdgpokikfaaRows
import Derived.Test.YthcdhdgpokikfaaAcLPieces
import Derived.Test.YthcdhdgpokikfaaAcArgs
open Go.AM Go.AM.Car
namespace Go.Proofs.Ythcdhdgpokikfaa
set_option maxRecDepth 100000
theorem own : ownKnob Try.prog.godebug = none := by kernel_rfl
theorem laidOut : laidOutB Try.prog = true := by kernel_rfl
theorem carPieces_lifted (os : Os) (started : os.Started) (H : Type) (enc : TypeId × Value → H) :
    ReturnsInHanded {} Try.checked os 10 .any (Rows.carPiecesSpec.pre6 enc Try.prog Try.f10 Rows.carPiecesRow.domain false) (Rows.carPiecesSpec.post enc Try.prog Try.f10 false true false false) := by
  refine law_lifted (C := Try.checked) (m := 10) (tb := 4) prog_ok prog_mixed laidOut own started (by kernel_rfl) Try.func10 (ChangeSpec.witness6 (enc := enc) (C := Try.checked) false ⟨#[], #[.agg #[.slice none 0 0,.slice none 0 0,.slice none 0 0,.int .i64 0], .slice none 0 0, .int .i64 0, .int .i64 0, .int .i64 0], []⟩ 8 (by kernel_rfl) (by kernel_rfl) (by kernel_rfl) (by kernel_rfl)) rfl rfl Try.underlying4 (by kernel_rfl) ?_ ?_
  · intro ds h
    match ds, h with
    | [d0, d1, d2, d3, d4], _ => exact ⟨rfl, rfl, rfl⟩
  · intro avs h
    replace h : Args Try.prog 10 [25, 60, 3, 3, 3] avs := h
    obtain ⟨a0, avs, rfl, h0, h⟩ := args_cons h
    obtain ⟨a1, avs, rfl, h1, h⟩ := args_cons h
    obtain ⟨a2, avs, rfl, h2, h⟩ := args_cons h
    obtain ⟨a3, avs, rfl, h3, h⟩ := args_cons h
    obtain ⟨a4, avs, rfl, h4, h⟩ := args_cons h
    obtain rfl := args_nil h
    obtain ⟨c, rfl, q0⟩ := arg_st h0 (by kernel_rfl) comp_sh
    obtain ⟨l, rfl, q1⟩ := arg_sl h1 (by kernel_rfl) strs_sh
    obtain ⟨cut, rfl, q2⟩ := arg_int h2 (by kernel_rfl)
    obtain ⟨wear, rfl, q3⟩ := arg_int h3 (by kernel_rfl)
    obtain ⟨more, rfl, q4⟩ := arg_int h4 (by kernel_rfl)
    exact (lawPieces c l cut wear more HZ q1.1).any
theorem carPieces_holds : Rows.CarPiecesSaid :=
  OpenClaim.holds_of_wide 10 Try.f10 rfl rfl rfl rfl rfl rfl rfl ⟨rfl, rfl, rfl, rfl, rfl⟩ rfl rfl rfl rfl rfl (by kernel_rfl) Try.func10 (by kernel_rfl)
    (of_decide_eq_true (by kernel_rfl)) (by unfold Func.isWrapper; first | (rw [if_pos (by decide +kernel)]; kernel_rfl) | (rw [if_neg (by decide +kernel)]; exact ⟨rfl, rfl⟩))
    (fun os started H enc _ => carPieces_lifted os started H enc)
#print axioms carPieces_holds
end Go.Proofs.Ythcdhdgpokikfaa
