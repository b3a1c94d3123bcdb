/- CarServes answers true at every input. -/
import Derived.Test.YthcdhdgpokikfaaRows
import Derived.Test.YthcdhdgpokikfaaAcLServe
import Derived.Test.YthcdhdgpokikfaaAcArgsJ
open Go.AM Go.AM.Car
namespace Go.Proofs.Ythcdhdgpokikfaa
set_option maxRecDepth 100000
theorem own : ownKnob Try.prog.godebug = none := by kernel_rfl
theorem laidOut : laidOutB Try.prog = true := by kernel_rfl
theorem carServes_lifted (os : Os) (started : os.Started) (H : Type) (enc : TypeId × Value → H) :
    ReturnsInHanded {} Try.checked os 6 .any (Rows.carServesSpec.pre6 enc Try.prog Try.f6 Rows.carServesRow.domain false) (Rows.carServesSpec.post enc Try.prog Try.f6 false true false false) := by
  refine law_lifted (C := Try.checked) (m := 10) (tb := 4) prog_ok prog_mixed laidOut own started (by kernel_rfl) Try.func6 (ChangeSpec.witness6 (enc := enc) (C := Try.checked) false ⟨#[], #[.slice none 0 0, .int .i64 0], []⟩ 8 (by kernel_rfl) (by kernel_rfl) (by kernel_rfl) (by kernel_rfl)) rfl rfl Try.underlying4 (by kernel_rfl) ?_ ?_
  · intro ds h
    match ds, h with
    | [d0, d1], _ => exact ⟨rfl, rfl, rfl⟩
  · intro avs h
    replace h : Args Try.prog 10 [50, 3] avs := h
    obtain ⟨a0, avs, rfl, h0, h⟩ := args_cons h
    obtain ⟨a1, avs, rfl, h1, h⟩ := args_cons h
    obtain rfl := args_nil h
    obtain ⟨l, rfl, q0⟩ := arg_sl h0 (by kernel_rfl) jobs_sh
    obtain ⟨m, rfl, q1⟩ := arg_int h1 (by kernel_rfl)
    exact (lawServes l m HZ q0.1 (fun j hj => (q0.2 j hj).2.2.1)).any
theorem carServes_holds : Rows.CarServesSaid :=
  OpenClaim.holds_of_wide 6 Try.f6 rfl rfl rfl rfl rfl rfl rfl ⟨rfl, rfl, rfl, rfl, rfl⟩ rfl rfl rfl rfl rfl (by kernel_rfl) Try.func6 (by kernel_rfl)
    (of_decide_eq_true (by kernel_rfl)) (by unfold Func.isWrapper; first | (rw [if_pos (by decide +kernel)]; kernel_rfl) | (rw [if_neg (by decide +kernel)]; exact ⟨rfl, rfl⟩))
    (fun os started H enc _ => carServes_lifted os started H enc)
#print axioms carServes_holds
end Go.Proofs.Ythcdhdgpokikfaa
