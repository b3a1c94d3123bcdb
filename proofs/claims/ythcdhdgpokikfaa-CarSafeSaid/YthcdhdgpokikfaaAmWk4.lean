/- More rules of single operations. -/
import Derived.Test.YthcdhdgpokikfaaAmWk3
namespace Go.AM
section
variable {P : Program} {ops : Array Oper} {m : Md} {i : Nat} {r : List Oper} {env : Env} {H : AH} {es : List (Nat × Evt)} {K : Env → AH → List (Nat × Evt) → Prop} {dst : Option Tmp} {ty : TypeId} {pos : String} {after : Array Edge} {op : Op}
section
variable {t t' : TypeId} {x y : Operand} {a b : Bool}
theorem ev_eqb [I : UL P t .bool] : ev P (Op.equal t (.bool a) (.bool b)) = some (a == b) := by
  unfold Op.equal Op.maxDepth
  rw [Op.equalIn, ev_bind, ev_underlying I.eq]
  rfl
theorem So_eqb [I : UL P t .bool] (k : So P ops m (i + 1) r (putE env dst (vbool (decide (a = b)))) H es K) (hx : evo env x = vbool a := by rfl) (hy : evo env y = vbool b := by rfl) : So P ops m i (⟨dst, .binOp .eql t x y t', ty, pos, after, none⟩ :: r) env H es K :=
  So_bin (c := vbool (decide (a = b))) (v := .bool (decide (a = b))) k hx hy (by
    show ev P (Op.equal t (.bool a) (.bool b) >>= fun c => pure (Value.bool c)) = _
    rw [ev_bind, ev_eqb]; cases a <;> cases b <;> rfl) rfl
theorem So_neb [I : UL P t .bool] (k : So P ops m (i + 1) r (putE env dst (vbool (decide (a ≠ b)))) H es K) (hx : evo env x = vbool a := by rfl) (hy : evo env y = vbool b := by rfl) : So P ops m i (⟨dst, .binOp .neq t x y t', ty, pos, after, none⟩ :: r) env H es K :=
  So_bin (c := vbool (decide (a ≠ b))) (v := .bool (decide (a ≠ b))) k hx hy (by
    show ev P (Op.equal t (.bool a) (.bool b) >>= fun c => pure (Value.bool !c)) = _
    rw [ev_bind, ev_eqb]; cases a <;> cases b <;> rfl) rfl
end
end
theorem dT {p : Prop} [Decidable p] (h : p) : vbool true = vbool (decide p) := congrArg vbool (decide_eq_true h).symm
theorem dF {p : Prop} [Decidable p] (h : ¬p) : vbool false = vbool (decide p) := congrArg vbool (decide_eq_false h).symm
theorem dI {p q : Prop} [Decidable p] [Decidable q] (h : p ↔ q) : vbool (decide p) = vbool (decide q) := congrArg vbool (decide_eq_decide.2 h)
theorem getD_in {α : Type} {l : List α} {i : Nat} (h : i < l.length) : ∃ x, l[i]? = some x ∧ x ∈ l := ⟨_, List.getElem?_eq_getElem h, List.getElem_mem h⟩
theorem uniq {α : Type} {o : Option α} {x y : α} (h : o = some x) (g : o = some y) : x = y := by rw [h] at g; injection g
end Go.AM
