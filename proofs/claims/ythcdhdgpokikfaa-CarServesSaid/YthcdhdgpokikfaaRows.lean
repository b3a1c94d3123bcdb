/-
  No cell of these rows narrows 'for every input' (looked for: loops, veiled, ifaces, maps, wideKeys, modest, calm, conditions, laid).
  DERIVED. THE GIVEN ROWS OF THIS SEAT. 12 by the template 'for every input the law returns true; each argument reads behind the call as it read before'; 0 by the template 'total and deterministic' (their statements: YthcdhdgpokikfaaTotals.lean).
  GIVEN WITH THE SEED: the statements are not yours to turn. If you find one false, say at which input.
  Laid BY PROGRAM, IN A SANDBOX (cutbox-rows.mjs): the forced cells as the released guide's own fill.sh prints them over the translation 3e9890555342399a… (all of the seat's roots in one cut). By AI agents, Wed Nov 11 2026. No macro, syntax, notation, axiom, sorry.
-/
import Derived.Test.YthcdhdgpokikfaaChecked
import GoSem.Claim
import GoSem.ClaimJoined
import GoSem.ClaimMapViews
import Derived.JoinedTies
import Derived.KernelRfl
namespace Go.Proofs.Ythcdhdgpokikfaa
/- THE CELL 'sum', in the pinned program and in every row, IS THE sha256 OF THE DUMP (.gsa) THAT YthcdhdgpokikfaaProg.lean LOADS. Nothing in Lean hashes anything: it is a label: what it is worth is what the hold of that sum in a sandbox is worth. -/
noncomputable def Try.pinned : Pinned := { name := "ythcdhdgpokikfaa", sum := "3e9890555342399a61f734f990e51cc57a8e0f1f947bf921420ba98ddb6d9963", checked := Try.checked }
namespace Rows
def none {H : Type} : Left H := { results := [], args := [] }

/-- 'hairpinlaw04.CarGrips': WHATEVER THE INPUT: true; the input reads as it did. -/
def carGripsSpec : ChangeSpec := { name := "carGrips", fn := fun _ => fun
  | [d1, d2, d3, d4, d5, d6] => { results := [.lit (.bool true)], args := [d1, d2, d3, d4, d5, d6] }
  | _ => none }
def carGripsRow : OpenClaim := { program := "ythcdhdgpokikfaa", sum := "3e9890555342399a61f734f990e51cc57a8e0f1f947bf921420ba98ddb6d9963", func := "hairpin/hairpinlaw04.CarGrips", spec := "carGrips", unfollowed := true, recurses := true, apart := false }
def CarGripsSaid : Prop := carGripsRow.holds Try.pinned (OpenSpec.ofChange carGripsSpec)

/-- ITS FALSE NEIGHBOUR: 'it returns false'. Refute it at one input. -/
def carGripsWrong : ChangeSpec := { name := "carGrips", fn := fun _ => fun
  | [d1, d2, d3, d4, d5, d6] => { results := [.lit (.bool false)], args := [d1, d2, d3, d4, d5, d6] }
  | _ => none }
def CarGripsWrongFalsely : Prop := carGripsRow.holds Try.pinned (OpenSpec.ofChange carGripsWrong)

/-- 'hairpinlaw04.CarTyres': WHATEVER THE INPUT: true; the input reads as it did. -/
def carTyresSpec : ChangeSpec := { name := "carTyres", fn := fun _ => fun
  | [d1, d2, d3] => { results := [.lit (.bool true)], args := [d1, d2, d3] }
  | _ => none }
def carTyresRow : OpenClaim := { program := "ythcdhdgpokikfaa", sum := "3e9890555342399a61f734f990e51cc57a8e0f1f947bf921420ba98ddb6d9963", func := "hairpin/hairpinlaw04.CarTyres", spec := "carTyres", unfollowed := true, recurses := true, apart := false }
def CarTyresSaid : Prop := carTyresRow.holds Try.pinned (OpenSpec.ofChange carTyresSpec)

/-- ITS FALSE NEIGHBOUR: 'it returns false'. Refute it at one input. -/
def carTyresWrong : ChangeSpec := { name := "carTyres", fn := fun _ => fun
  | [d1, d2, d3] => { results := [.lit (.bool false)], args := [d1, d2, d3] }
  | _ => none }
def CarTyresWrongFalsely : Prop := carTyresRow.holds Try.pinned (OpenSpec.ofChange carTyresWrong)

/-- 'hairpinlaw04.CarFuels': WHATEVER THE INPUT: true; the input reads as it did. -/
def carFuelsSpec : ChangeSpec := { name := "carFuels", fn := fun _ => fun
  | [d1, d2, d3, d4] => { results := [.lit (.bool true)], args := [d1, d2, d3, d4] }
  | _ => none }
def carFuelsRow : OpenClaim := { program := "ythcdhdgpokikfaa", sum := "3e9890555342399a61f734f990e51cc57a8e0f1f947bf921420ba98ddb6d9963", func := "hairpin/hairpinlaw04.CarFuels", spec := "carFuels", unfollowed := true, recurses := true, apart := false }
def CarFuelsSaid : Prop := carFuelsRow.holds Try.pinned (OpenSpec.ofChange carFuelsSpec)

/-- ITS FALSE NEIGHBOUR: 'it returns false'. Refute it at one input. -/
def carFuelsWrong : ChangeSpec := { name := "carFuels", fn := fun _ => fun
  | [d1, d2, d3, d4] => { results := [.lit (.bool false)], args := [d1, d2, d3, d4] }
  | _ => none }
def CarFuelsWrongFalsely : Prop := carFuelsRow.holds Try.pinned (OpenSpec.ofChange carFuelsWrong)

/-- 'hairpinlaw04.CarServes': WHATEVER THE INPUT: true; the input reads as it did. -/
def carServesSpec : ChangeSpec := { name := "carServes", fn := fun _ => fun
  | [d1, d2] => { results := [.lit (.bool true)], args := [d1, d2] }
  | _ => none }
def carServesRow : OpenClaim := { program := "ythcdhdgpokikfaa", sum := "3e9890555342399a61f734f990e51cc57a8e0f1f947bf921420ba98ddb6d9963", func := "hairpin/hairpinlaw04.CarServes", spec := "carServes", unfollowed := true, recurses := true, apart := false }
def CarServesSaid : Prop := carServesRow.holds Try.pinned (OpenSpec.ofChange carServesSpec)

/-- ITS FALSE NEIGHBOUR: 'it returns false'. Refute it at one input. -/
def carServesWrong : ChangeSpec := { name := "carServes", fn := fun _ => fun
  | [d1, d2] => { results := [.lit (.bool false)], args := [d1, d2] }
  | _ => none }
def CarServesWrongFalsely : Prop := carServesRow.holds Try.pinned (OpenSpec.ofChange carServesWrong)

/-- 'hairpinlaw04.CarSafe': WHATEVER THE INPUT: true; the input reads as it did. -/
def carSafeSpec : ChangeSpec := { name := "carSafe", fn := fun _ => fun
  | [d1, d2, d3, d4, d5] => { results := [.lit (.bool true)], args := [d1, d2, d3, d4, d5] }
  | _ => none }
def carSafeRow : OpenClaim := { program := "ythcdhdgpokikfaa", sum := "3e9890555342399a61f734f990e51cc57a8e0f1f947bf921420ba98ddb6d9963", func := "hairpin/hairpinlaw04.CarSafe", spec := "carSafe", unfollowed := true, recurses := true, apart := false }
def CarSafeSaid : Prop := carSafeRow.holds Try.pinned (OpenSpec.ofChange carSafeSpec)

/-- ITS FALSE NEIGHBOUR: 'it returns false'. Refute it at one input. -/
def carSafeWrong : ChangeSpec := { name := "carSafe", fn := fun _ => fun
  | [d1, d2, d3, d4, d5] => { results := [.lit (.bool false)], args := [d1, d2, d3, d4, d5] }
  | _ => none }
def CarSafeWrongFalsely : Prop := carSafeRow.holds Try.pinned (OpenSpec.ofChange carSafeWrong)

/-- 'hairpinlaw04.CarLeast': WHATEVER THE INPUT: true; the input reads as it did. -/
def carLeastSpec : ChangeSpec := { name := "carLeast", fn := fun _ => fun
  | [d1, d2, d3, d4, d5, d6] => { results := [.lit (.bool true)], args := [d1, d2, d3, d4, d5, d6] }
  | _ => none }
def carLeastRow : OpenClaim := { program := "ythcdhdgpokikfaa", sum := "3e9890555342399a61f734f990e51cc57a8e0f1f947bf921420ba98ddb6d9963", func := "hairpin/hairpinlaw04.CarLeast", spec := "carLeast", unfollowed := true, recurses := true, apart := false }
def CarLeastSaid : Prop := carLeastRow.holds Try.pinned (OpenSpec.ofChange carLeastSpec)

/-- ITS FALSE NEIGHBOUR: 'it returns false'. Refute it at one input. -/
def carLeastWrong : ChangeSpec := { name := "carLeast", fn := fun _ => fun
  | [d1, d2, d3, d4, d5, d6] => { results := [.lit (.bool false)], args := [d1, d2, d3, d4, d5, d6] }
  | _ => none }
def CarLeastWrongFalsely : Prop := carLeastRow.holds Try.pinned (OpenSpec.ofChange carLeastWrong)

/-- 'hairpinlaw04.CarLosses': WHATEVER THE INPUT: true; the input reads as it did. -/
def carLossesSpec : ChangeSpec := { name := "carLosses", fn := fun _ => fun
  | [d1, d2, d3] => { results := [.lit (.bool true)], args := [d1, d2, d3] }
  | _ => none }
def carLossesRow : OpenClaim := { program := "ythcdhdgpokikfaa", sum := "3e9890555342399a61f734f990e51cc57a8e0f1f947bf921420ba98ddb6d9963", func := "hairpin/hairpinlaw04.CarLosses", spec := "carLosses", unfollowed := true, recurses := true, apart := false }
def CarLossesSaid : Prop := carLossesRow.holds Try.pinned (OpenSpec.ofChange carLossesSpec)

/-- ITS FALSE NEIGHBOUR: 'it returns false'. Refute it at one input. -/
def carLossesWrong : ChangeSpec := { name := "carLosses", fn := fun _ => fun
  | [d1, d2, d3] => { results := [.lit (.bool false)], args := [d1, d2, d3] }
  | _ => none }
def CarLossesWrongFalsely : Prop := carLossesRow.holds Try.pinned (OpenSpec.ofChange carLossesWrong)

/-- 'hairpinlaw04.CarPieces': WHATEVER THE INPUT: true; the input reads as it did. -/
def carPiecesSpec : ChangeSpec := { name := "carPieces", fn := fun _ => fun
  | [d1, d2, d3, d4, d5] => { results := [.lit (.bool true)], args := [d1, d2, d3, d4, d5] }
  | _ => none }
def carPiecesRow : OpenClaim := { program := "ythcdhdgpokikfaa", sum := "3e9890555342399a61f734f990e51cc57a8e0f1f947bf921420ba98ddb6d9963", func := "hairpin/hairpinlaw04.CarPieces", spec := "carPieces", unfollowed := true, recurses := true, apart := false }
def CarPiecesSaid : Prop := carPiecesRow.holds Try.pinned (OpenSpec.ofChange carPiecesSpec)

/-- ITS FALSE NEIGHBOUR: 'it returns false'. Refute it at one input. -/
def carPiecesWrong : ChangeSpec := { name := "carPieces", fn := fun _ => fun
  | [d1, d2, d3, d4, d5] => { results := [.lit (.bool false)], args := [d1, d2, d3, d4, d5] }
  | _ => none }
def CarPiecesWrongFalsely : Prop := carPiecesRow.holds Try.pinned (OpenSpec.ofChange carPiecesWrong)

/-- 'hairpinlaw04.CarPossible': WHATEVER THE INPUT: true; the input reads as it did. -/
def carPossibleSpec : ChangeSpec := { name := "carPossible", fn := fun _ => fun
  | [d1, d2, d3, d4] => { results := [.lit (.bool true)], args := [d1, d2, d3, d4] }
  | _ => none }
def carPossibleRow : OpenClaim := { program := "ythcdhdgpokikfaa", sum := "3e9890555342399a61f734f990e51cc57a8e0f1f947bf921420ba98ddb6d9963", func := "hairpin/hairpinlaw04.CarPossible", spec := "carPossible", unfollowed := true, recurses := true, apart := false }
def CarPossibleSaid : Prop := carPossibleRow.holds Try.pinned (OpenSpec.ofChange carPossibleSpec)

/-- ITS FALSE NEIGHBOUR: 'it returns false'. Refute it at one input. -/
def carPossibleWrong : ChangeSpec := { name := "carPossible", fn := fun _ => fun
  | [d1, d2, d3, d4] => { results := [.lit (.bool false)], args := [d1, d2, d3, d4] }
  | _ => none }
def CarPossibleWrongFalsely : Prop := carPossibleRow.holds Try.pinned (OpenSpec.ofChange carPossibleWrong)

/-- 'hairpinlaw04.CarBest': WHATEVER THE INPUT: true; the input reads as it did. -/
def carBestSpec : ChangeSpec := { name := "carBest", fn := fun _ => fun
  | [d1, d2, d3, d4] => { results := [.lit (.bool true)], args := [d1, d2, d3, d4] }
  | _ => none }
def carBestRow : OpenClaim := { program := "ythcdhdgpokikfaa", sum := "3e9890555342399a61f734f990e51cc57a8e0f1f947bf921420ba98ddb6d9963", func := "hairpin/hairpinlaw04.CarBest", spec := "carBest", unfollowed := true, recurses := true, apart := false }
def CarBestSaid : Prop := carBestRow.holds Try.pinned (OpenSpec.ofChange carBestSpec)

/-- ITS FALSE NEIGHBOUR: 'it returns false'. Refute it at one input. -/
def carBestWrong : ChangeSpec := { name := "carBest", fn := fun _ => fun
  | [d1, d2, d3, d4] => { results := [.lit (.bool false)], args := [d1, d2, d3, d4] }
  | _ => none }
def CarBestWrongFalsely : Prop := carBestRow.holds Try.pinned (OpenSpec.ofChange carBestWrong)

/-- 'hairpinlaw04.CarSeals': WHATEVER THE INPUT: true; the input reads as it did. -/
def carSealsSpec : ChangeSpec := { name := "carSeals", fn := fun _ => fun
  | [d] => { results := [.lit (.bool true)], args := [d] }
  | _ => none }
def carSealsRow : OpenClaim := { program := "ythcdhdgpokikfaa", sum := "3e9890555342399a61f734f990e51cc57a8e0f1f947bf921420ba98ddb6d9963", func := "hairpin/hairpinlaw04.CarSeals", spec := "carSeals", unfollowed := true, recurses := true, apart := false }
def CarSealsSaid : Prop := carSealsRow.holds Try.pinned (OpenSpec.ofChange carSealsSpec)

/-- ITS FALSE NEIGHBOUR: 'it returns false'. Refute it at one input. -/
def carSealsWrong : ChangeSpec := { name := "carSeals", fn := fun _ => fun
  | [d] => { results := [.lit (.bool false)], args := [d] }
  | _ => none }
def CarSealsWrongFalsely : Prop := carSealsRow.holds Try.pinned (OpenSpec.ofChange carSealsWrong)

/-- 'hairpinlaw04.CarSealed': WHATEVER THE INPUT: true; the input reads as it did. -/
def carSealedSpec : ChangeSpec := { name := "carSealed", fn := fun _ => fun
  | [d1, d2] => { results := [.lit (.bool true)], args := [d1, d2] }
  | _ => none }
def carSealedRow : OpenClaim := { program := "ythcdhdgpokikfaa", sum := "3e9890555342399a61f734f990e51cc57a8e0f1f947bf921420ba98ddb6d9963", func := "hairpin/hairpinlaw04.CarSealed", spec := "carSealed", unfollowed := true, recurses := true, apart := false }
def CarSealedSaid : Prop := carSealedRow.holds Try.pinned (OpenSpec.ofChange carSealedSpec)

/-- ITS FALSE NEIGHBOUR: 'it returns false'. Refute it at one input. -/
def carSealedWrong : ChangeSpec := { name := "carSealed", fn := fun _ => fun
  | [d1, d2] => { results := [.lit (.bool false)], args := [d1, d2] }
  | _ => none }
def CarSealedWrongFalsely : Prop := carSealedRow.holds Try.pinned (OpenSpec.ofChange carSealedWrong)

/- THE SECOND FORM. 'bulk': how many values and letters a reading holds, each counted each time it is reached (what is shared counts as often as it is met; a slice's spare places count too). A statement '..UptoSaid' is the law's where the arguments, and the package variables that the reading takes, are together of bulk at most 1048576: NARROWER than '..Said'. Prove '..Said' where nothing that the law and all that it calls make is longer than what came in: it says more and counts as full. Else prove '..UptoSaid'. A law counts once. -/
mutual
def uptoBulk {H : Type} : DataW H → Nat
  | .lit (.string bytes) => bytes.length + 1
  | .lit _ => 1
  | .nil => 1
  | .ptr d => uptoBulk d + 1
  | .slice elems spare => uptoBulkAll elems + uptoBulkAll spare + 1
  | .agg parts => uptoBulkAll parts + 1
  | .iface _ d => uptoBulk d + 1
  | .map entries => uptoBulkEntries entries + 1
  | .held _ => 1
def uptoBulkAll {H : Type} : List (DataW H) → Nat
  | [] => 0
  | d :: r => uptoBulk d + uptoBulkAll r
def uptoBulkEntries {H : Type} : List (Lit × DataW H) → Nat
  | [] => 0
  | x :: r => uptoBulkEntry x + uptoBulkEntries r
def uptoBulkEntry {H : Type} : Lit × DataW H → Nat
  | (.string bytes, d) => bytes.length + uptoBulk d + 1
  | (_, d) => uptoBulk d + 1
 end
def uptoSmall : (H : Type) → List (DataW H) → Bool := fun _ ds => decide (uptoBulkAll ds ≤ 1048576)
def OpenSpec.upto (s : _root_.Go.ChangeSpec) : _root_.Go.OpenSpec := { _root_.Go.OpenSpec.ofChange s with cond := some uptoSmall }

/-- 'hairpinlaw04.CarGrips', WHERE WHAT IT READS IS OF BULK AT MOST 1048576: true; the input reads as it did. -/
def carGripsUptoRow : OpenClaim := { program := "ythcdhdgpokikfaa", sum := "3e9890555342399a61f734f990e51cc57a8e0f1f947bf921420ba98ddb6d9963", func := "hairpin/hairpinlaw04.CarGrips", spec := "carGrips", unfollowed := true, recurses := true, apart := false, narrowed := true }
def CarGripsUptoSaid : Prop := carGripsUptoRow.holds Try.pinned (OpenSpec.upto carGripsSpec)

/-- 'hairpinlaw04.CarTyres', WHERE WHAT IT READS IS OF BULK AT MOST 1048576: true; the input reads as it did. -/
def carTyresUptoRow : OpenClaim := { program := "ythcdhdgpokikfaa", sum := "3e9890555342399a61f734f990e51cc57a8e0f1f947bf921420ba98ddb6d9963", func := "hairpin/hairpinlaw04.CarTyres", spec := "carTyres", unfollowed := true, recurses := true, apart := false, narrowed := true }
def CarTyresUptoSaid : Prop := carTyresUptoRow.holds Try.pinned (OpenSpec.upto carTyresSpec)

/-- 'hairpinlaw04.CarFuels', WHERE WHAT IT READS IS OF BULK AT MOST 1048576: true; the input reads as it did. -/
def carFuelsUptoRow : OpenClaim := { program := "ythcdhdgpokikfaa", sum := "3e9890555342399a61f734f990e51cc57a8e0f1f947bf921420ba98ddb6d9963", func := "hairpin/hairpinlaw04.CarFuels", spec := "carFuels", unfollowed := true, recurses := true, apart := false, narrowed := true }
def CarFuelsUptoSaid : Prop := carFuelsUptoRow.holds Try.pinned (OpenSpec.upto carFuelsSpec)

/-- 'hairpinlaw04.CarServes', WHERE WHAT IT READS IS OF BULK AT MOST 1048576: true; the input reads as it did. -/
def carServesUptoRow : OpenClaim := { program := "ythcdhdgpokikfaa", sum := "3e9890555342399a61f734f990e51cc57a8e0f1f947bf921420ba98ddb6d9963", func := "hairpin/hairpinlaw04.CarServes", spec := "carServes", unfollowed := true, recurses := true, apart := false, narrowed := true }
def CarServesUptoSaid : Prop := carServesUptoRow.holds Try.pinned (OpenSpec.upto carServesSpec)

/-- 'hairpinlaw04.CarSafe', WHERE WHAT IT READS IS OF BULK AT MOST 1048576: true; the input reads as it did. -/
def carSafeUptoRow : OpenClaim := { program := "ythcdhdgpokikfaa", sum := "3e9890555342399a61f734f990e51cc57a8e0f1f947bf921420ba98ddb6d9963", func := "hairpin/hairpinlaw04.CarSafe", spec := "carSafe", unfollowed := true, recurses := true, apart := false, narrowed := true }
def CarSafeUptoSaid : Prop := carSafeUptoRow.holds Try.pinned (OpenSpec.upto carSafeSpec)

/-- 'hairpinlaw04.CarLeast', WHERE WHAT IT READS IS OF BULK AT MOST 1048576: true; the input reads as it did. -/
def carLeastUptoRow : OpenClaim := { program := "ythcdhdgpokikfaa", sum := "3e9890555342399a61f734f990e51cc57a8e0f1f947bf921420ba98ddb6d9963", func := "hairpin/hairpinlaw04.CarLeast", spec := "carLeast", unfollowed := true, recurses := true, apart := false, narrowed := true }
def CarLeastUptoSaid : Prop := carLeastUptoRow.holds Try.pinned (OpenSpec.upto carLeastSpec)

/-- 'hairpinlaw04.CarLosses', WHERE WHAT IT READS IS OF BULK AT MOST 1048576: true; the input reads as it did. -/
def carLossesUptoRow : OpenClaim := { program := "ythcdhdgpokikfaa", sum := "3e9890555342399a61f734f990e51cc57a8e0f1f947bf921420ba98ddb6d9963", func := "hairpin/hairpinlaw04.CarLosses", spec := "carLosses", unfollowed := true, recurses := true, apart := false, narrowed := true }
def CarLossesUptoSaid : Prop := carLossesUptoRow.holds Try.pinned (OpenSpec.upto carLossesSpec)

/-- 'hairpinlaw04.CarPieces', WHERE WHAT IT READS IS OF BULK AT MOST 1048576: true; the input reads as it did. -/
def carPiecesUptoRow : OpenClaim := { program := "ythcdhdgpokikfaa", sum := "3e9890555342399a61f734f990e51cc57a8e0f1f947bf921420ba98ddb6d9963", func := "hairpin/hairpinlaw04.CarPieces", spec := "carPieces", unfollowed := true, recurses := true, apart := false, narrowed := true }
def CarPiecesUptoSaid : Prop := carPiecesUptoRow.holds Try.pinned (OpenSpec.upto carPiecesSpec)

/-- 'hairpinlaw04.CarPossible', WHERE WHAT IT READS IS OF BULK AT MOST 1048576: true; the input reads as it did. -/
def carPossibleUptoRow : OpenClaim := { program := "ythcdhdgpokikfaa", sum := "3e9890555342399a61f734f990e51cc57a8e0f1f947bf921420ba98ddb6d9963", func := "hairpin/hairpinlaw04.CarPossible", spec := "carPossible", unfollowed := true, recurses := true, apart := false, narrowed := true }
def CarPossibleUptoSaid : Prop := carPossibleUptoRow.holds Try.pinned (OpenSpec.upto carPossibleSpec)

/-- 'hairpinlaw04.CarBest', WHERE WHAT IT READS IS OF BULK AT MOST 1048576: true; the input reads as it did. -/
def carBestUptoRow : OpenClaim := { program := "ythcdhdgpokikfaa", sum := "3e9890555342399a61f734f990e51cc57a8e0f1f947bf921420ba98ddb6d9963", func := "hairpin/hairpinlaw04.CarBest", spec := "carBest", unfollowed := true, recurses := true, apart := false, narrowed := true }
def CarBestUptoSaid : Prop := carBestUptoRow.holds Try.pinned (OpenSpec.upto carBestSpec)

/-- 'hairpinlaw04.CarSeals', WHERE WHAT IT READS IS OF BULK AT MOST 1048576: true; the input reads as it did. -/
def carSealsUptoRow : OpenClaim := { program := "ythcdhdgpokikfaa", sum := "3e9890555342399a61f734f990e51cc57a8e0f1f947bf921420ba98ddb6d9963", func := "hairpin/hairpinlaw04.CarSeals", spec := "carSeals", unfollowed := true, recurses := true, apart := false, narrowed := true }
def CarSealsUptoSaid : Prop := carSealsUptoRow.holds Try.pinned (OpenSpec.upto carSealsSpec)

/-- 'hairpinlaw04.CarSealed', WHERE WHAT IT READS IS OF BULK AT MOST 1048576: true; the input reads as it did. -/
def carSealedUptoRow : OpenClaim := { program := "ythcdhdgpokikfaa", sum := "3e9890555342399a61f734f990e51cc57a8e0f1f947bf921420ba98ddb6d9963", func := "hairpin/hairpinlaw04.CarSealed", spec := "carSealed", unfollowed := true, recurses := true, apart := false, narrowed := true }
def CarSealedUptoSaid : Prop := carSealedUptoRow.holds Try.pinned (OpenSpec.upto carSealedSpec)

end Rows
end Go.Proofs.Ythcdhdgpokikfaa
