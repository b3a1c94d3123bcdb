/- More rules of single operations. -/
import Derived.Test.YthcdhdgpokikfaaAmWk3
namespace Go.AM
section
variable {P : Program} {ops : Array Oper} {m : Md} {i : Nat} {r : List Oper} {env : Env} {H : AH} {es : List (Nat × Evt)} {K : Env → AH → List (Nat × Evt) → Prop} {dst : Option Tmp} {ty : TypeId} {pos : String} {after : Array Edge} {op : Op}
section
variable {t t' : TypeId} {x y : Operand} {a b : Bool}
theorem ev_eqb [I : UL P t .bool] : ev P (Op.equal t (.bool a) (.bool b)) = some (a == b) := by
  unfold Op.equal Op.maxDepth
  rw [Op.equalIn, ev_bind, ev_underlying I.eq]
  rfl
theorem So_eqb [I : UL P t .bool] (k : So r P ops m (i + 1) (putE env dst (vbool (decide (a = b)))) H es K) (hx : evo env x = vbool a := by rfl) (hy : evo env y = vbool b := by rfl) : So (⟨dst, .binOp .eql t x y t', ty, pos, after, none⟩ :: r) P ops m i env H es K :=
  So_bin (c := vbool (decide (a = b))) (v := .bool (decide (a = b))) k hx hy (by
    show ev P (Op.equal t (.bool a) (.bool b) >>= fun c => pure (Value.bool c)) = _
    rw [ev_bind, ev_eqb]; cases a <;> cases b <;> rfl) rfl
theorem So_neb [I : UL P t .bool] (k : So r P ops m (i + 1) (putE env dst (vbool (decide (a ≠ b)))) H es K) (hx : evo env x = vbool a := by rfl) (hy : evo env y = vbool b := by rfl) : So (⟨dst, .binOp .neq t x y t', ty, pos, after, none⟩ :: r) P ops m i env H es K :=
  So_bin (c := vbool (decide (a ≠ b))) (v := .bool (decide (a ≠ b))) k hx hy (by
    show ev P (Op.equal t (.bool a) (.bool b) >>= fun c => pure (Value.bool !c)) = _
    rw [ev_bind, ev_eqb]; cases a <;> cases b <;> rfl) rfl
end

/-- The heap below is as it was. -/
structure Fr (H H' : AH) : Prop where
  nx : H.nx ≤ H'.nx
  old : ∀ j, j < H.nx → H'.bl j = H.bl j
theorem Fr.refl (H : AH) : Fr H H := ⟨Nat.le_refl _, fun _ _ => rfl⟩
theorem Fr.trans {A B C : AH} (h : Fr A B) (g : Fr B C) : Fr A C := ⟨Nat.le_trans h.nx g.nx, fun j hj => (g.old j (Nat.lt_of_lt_of_le hj h.nx)).trans (h.old j hj)⟩
theorem Hs.fr {H0 H : AH} {l : List (Nat × Blk)} (h : Hs H0 H l) : Fr H0 H := ⟨h.nx, h.old⟩
theorem Sl.fr {H H' : AH} {sz : Nat} {c : Cell} {rows : List (List Cell)} (h : Sl H sz c rows) (f : Fr H H') : Sl H' sz c rows :=
  ⟨rw_frame h.toRw (fun k hk => f.old k (h.refs k hk)), fun k hk => Nat.lt_of_lt_of_le (h.refs k hk) f.nx⟩
/-- A box of somebody else's. -/
structure Bx (H : AH) (h : Nat) (cs : List Cell) : Prop where
  lt : h < H.nx
  eq : H.bl h = .box cs
theorem Bx.fr {H H' : AH} {h : Nat} {cs : List Cell} (b : Bx H h cs) (f : Fr H H') : Bx H' h cs := ⟨Nat.lt_of_lt_of_le b.lt f.nx, (f.old h b.lt).trans b.eq⟩
theorem Hs.bx {H0 H : AH} {l : List (Nat × Blk)} {h : Nat} {cs : List Cell} (hs : Hs H0 H l) (hb : (h, .box cs) ∈ l) : Bx H h cs := ⟨(hs.ge _ hb).2, hs.at_ _ hb⟩
section
variable {x : Operand} {t : TypeId} {H0 : AH} {l : List (Nat × Blk)}
theorem So_lp {h o : Nat} {cs : List Cell} {c : Cell} [I : AG P t false] (k : So r P ops m (i + 1) (putE env dst (.one c)) H (ad m es i (rdE [h])) K) (hx : evo env x = .one (.bp h o) := by rfl) (hs : Hs H0 H l := by assumption) (hb : Bx H0 h cs := by assumption) (hc : cs[o]? = some c := by rfl) :
    So (⟨dst, .load t x, ty, pos, after, none⟩ :: r) P ops m i env H es K := by
  refine So_rd rfl (by intros; simp) (l := [h]) ?_ (by simp [looks, hx, refsV, refsC]) k
  have hb := (hb.fr hs.fr).eq
  have hlt := (List.getElem?_eq_some_iff.1 hc).1
  simp only [aop, hx, AV.cell, I.eq, rdPtr, hb, if_pos (show o + 1 ≤ cs.length from hlt), take1 hc]
theorem So_lpa {h o n : Nat} {cs : List Cell} [I : AG P t true] [J : SZ P t n] (k : So r P ops m (i + 1) (putE env dst (.agg ((cs.drop o).take n))) H (ad m es i (rdE [h])) K) (hx : evo env x = .one (.bp h o) := by rfl) (hs : Hs H0 H l := by assumption) (hb : Bx H0 h cs := by assumption) (hl : o + n ≤ cs.length := by exact Nat.le_of_ble_eq_true rfl) :
    So (⟨dst, .load t x, ty, pos, after, none⟩ :: r) P ops m i env H es K := by
  refine So_rd rfl (by intros; simp) (l := [h]) ?_ (by simp [looks, hx, refsV, refsC]) k
  have hb := (hb.fr hs.fr).eq
  simp only [aop, hx, AV.cell, I.eq, J.eq, rdPtr, hb, if_pos hl]
  rfl
end
theorem plain_b2 {o : Oper} {b : Builtin} {x y : Operand} {ats : Array TypeId} {u w v : Value} {c : AV} (hop : o.op = .call { callee := .builtin b, args := #[x, y], argTypes := ats }) (hx : evo env x = .one (.sc u)) (hy : evo env y = .one (.sc w))
    (he : ev P (do invoke (.builtin b ats o.type (#[x, y].map fun | .const _ => true | _ => false)) #[u, w]) = some (.value v)) (hv : ofV v = some c) : plainOp P env o = some (c, none) := by
  unfold plainOp
  rw [if_pos (by rw [hop]; simp [Op.operands, Call.operands, hx, hy, AV.toV, Cell.toV])]
  have : ev P (execOp (fun x => ((evo env x).toV).getD undef) o) = some (.value v) := by
    unfold execOp
    rw [hop]
    simp only [resolve, List.map_toArray, List.map_cons, List.map_nil, hx, hy, AV.toV, Cell.toV, Option.getD_some, pure_bind] at he ⊢
    exact he
  rw [this]
  simp only [hv]
  rfl
theorem So_min {x y : Operand} {ats : Array TypeId} {a b : Int} (k : So r P ops m (i + 1) (putE env dst (vint (min a b))) H es K) (hx : evo env x = vint a := by rfl) (hy : evo env y = vint b := by rfl) :
    So (⟨dst, .call { callee := .builtin .min, args := #[x, y], argTypes := ats }, ty, pos, after, none⟩ :: r) P ops m i env H es K := by
  have e : (if b < a then b else a) = min a b := by split <;> omega
  rw [← e] at k
  refine So_pure rfl (by intros; simp) ?_ (by simp [looks, hx, hy, refsV, refsC]) k
  simp only [aop, aopBuiltin]
  exact plain_b2 (v := .int .i64 (if b < a then b else a)) rfl hx hy rfl rfl
theorem So_max {x y : Operand} {ats : Array TypeId} {a b : Int} (k : So r P ops m (i + 1) (putE env dst (vint (max a b))) H es K) (hx : evo env x = vint a := by rfl) (hy : evo env y = vint b := by rfl) :
    So (⟨dst, .call { callee := .builtin .max, args := #[x, y], argTypes := ats }, ty, pos, after, none⟩ :: r) P ops m i env H es K := by
  have e : (if b > a then b else a) = max a b := by split <;> omega
  rw [← e] at k
  refine So_pure rfl (by intros; simp) ?_ (by simp [looks, hx, hy, refsV, refsC]) k
  simp only [aop, aopBuiltin]
  exact plain_b2 (v := .int .i64 (if b > a then b else a)) rfl hx hy rfl rfl
end
theorem dT {p : Prop} [Decidable p] (h : p) : vbool true = vbool (decide p) := congrArg vbool (decide_eq_true h).symm
theorem dF {p : Prop} [Decidable p] (h : ¬p) : vbool false = vbool (decide p) := congrArg vbool (decide_eq_false h).symm
theorem dI {p q : Prop} [Decidable p] [Decidable q] (h : p ↔ q) : vbool (decide p) = vbool (decide q) := congrArg vbool (decide_eq_decide.2 h)
theorem getD_in {α : Type} {l : List α} {i : Nat} (h : i < l.length) : ∃ x, l[i]? = some x ∧ x ∈ l := ⟨_, List.getElem?_eq_getElem h, List.getElem_mem h⟩
theorem uniq {α : Type} {o : Option α} {x y : α} (h : o = some x) (g : o = some y) : x = y := by rw [h] at g; injection g
end Go.AM
