/- CarSafe answers true at every input. -/
import Derived.Test.YthcdhdgpokikfaaRows
import Derived.Test.YthcdhdgpokikfaaAcLSafe
import Derived.Test.YthcdhdgpokikfaaAcArgs
open Go.AM Go.AM.Car
namespace Go.Proofs.Ythcdhdgpokikfaa
set_option maxRecDepth 100000
theorem own : ownKnob Try.prog.godebug = none := by kernel_rfl
theorem laidOut : laidOutB Try.prog = true := by kernel_rfl
theorem carSafe_lifted (os : Os) (started : os.Started) (H : Type) (enc : TypeId × Value → H) :
    ReturnsInHanded {} Try.checked os 7 .any (Rows.carSafeSpec.pre6 enc Try.prog Try.f7 Rows.carSafeRow.domain false) (Rows.carSafeSpec.post enc Try.prog Try.f7 false true false false) := by
  refine law_lifted (C := Try.checked) (m := 10) (tb := 4) prog_ok prog_mixed laidOut own started (by kernel_rfl) Try.func7 (ChangeSpec.witness6 (enc := enc) (C := Try.checked) false ⟨#[], #[.int .i64 0, .int .i64 0, .int .i64 0, .slice none 0 0, .slice none 0 0], []⟩ 8 (by kernel_rfl) (by kernel_rfl) (by kernel_rfl) (by kernel_rfl)) rfl rfl Try.underlying4 (by kernel_rfl) ?_ ?_
  · intro ds h
    match ds, h with
    | [d1, d2, d3, d4, d5], _ => exact ⟨rfl, rfl, rfl⟩
  · intro avs h
    replace h : Args Try.prog 10 [3, 3, 3, 44, 23] avs := h
    obtain ⟨a0, avs, rfl, h0, h⟩ := args_cons h
    obtain ⟨a1, avs, rfl, h1, h⟩ := args_cons h
    obtain ⟨a2, avs, rfl, h2, h⟩ := args_cons h
    obtain ⟨a3, avs, rfl, h3, h⟩ := args_cons h
    obtain ⟨a4, avs, rfl, h4, h⟩ := args_cons h
    obtain rfl := args_nil h
    obtain ⟨tank, rfl, _⟩ := arg_int h0 (by kernel_rfl)
    obtain ⟨reserve, rfl, _⟩ := arg_int h1 (by kernel_rfl)
    obtain ⟨start, rfl, _⟩ := arg_int h2 (by kernel_rfl)
    obtain ⟨l, rfl, hl⟩ := arg_sl h3 (by kernel_rfl) legs_sh
    obtain ⟨b, rfl, hb⟩ := arg_sl h4 (by kernel_rfl) ints_sh
    exact (lawSafe tank reserve start HZ .lst .lst hl.1 hb.1).any
theorem carSafe_holds : Rows.CarSafeSaid :=
  OpenClaim.holds_of_wide 7 Try.f7 rfl rfl rfl rfl rfl rfl rfl ⟨rfl, rfl, rfl, rfl, rfl⟩ rfl rfl rfl rfl rfl (by kernel_rfl) Try.func7 (by kernel_rfl)
    (of_decide_eq_true (by kernel_rfl)) (by unfold Func.isWrapper; first | (rw [if_pos (by decide +kernel)]; kernel_rfl) | (rw [if_neg (by decide +kernel)]; exact ⟨rfl, rfl⟩))
    (fun os started H enc _ => carSafe_lifted os started H enc)
#print axioms carSafe_holds
end Go.Proofs.Ythcdhdgpokikfaa
