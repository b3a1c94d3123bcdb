/- The rules of single operations, for walking: what is asked beside the rest is tried by itself. -/
import Derived.Test.YthcdhdgpokikfaaAmWk2
namespace Go.AM

class UL (P : Program) (t : TypeId) (d : outParam TypeDesc) : Prop where
  eq : P.underlying t = some d
class SZ (P : Program) (t : TypeId) (n : outParam Nat) : Prop where
  eq : szOf P t = some n
class AG (P : Program) (t : TypeId) (b : outParam Bool) : Prop where
  eq : aggB P t = some b
class ZC (P : Program) (t : TypeId) (cs : outParam (List Cell)) : Prop where
  eq : zeroCells P t = some cs
/-- A struct's field: where it starts, whether it is a struct or an array, how many cells it has. -/
class FD (P : Program) (t : TypeId) (f : Nat) (off : outParam Nat) (agg : outParam Bool) (n : outParam Nat) : Prop where
  eq : ∃ fields fl, P.underlying t = some (.struct fields) ∧ fields[f]? = some fl ∧ fl.offset = off ∧ aggB P fl.type = some agg ∧ szOf P fl.type = some n ∧ 0 < n
/-- A slice's elements: how many cells, how many bytes. -/
class EL (P : Program) (t : TypeId) (e : outParam TypeId) (n : outParam Nat) : Prop where
  eq : ∃ i z, P.underlying t = some (.slice e) ∧ P.info? e = some i ∧ i.size = n ∧ zeroCells P e = some z ∧ z.length = n ∧ 0 < n ∧ 0 < i.bytes ∧ i.bytes ≤ 4096

abbrev rdE (l : List Nat) : Evt := ⟨l, none, false, false, false⟩
abbrev wrE (l : List Nat) (h : Nat) (f : Bool) : Evt := ⟨l, some h, f, false, false⟩
abbrev clE : Evt := ⟨[], none, false, true, false⟩

section
variable {P : Program} {ops : Array Oper} {m : Md} {i : Nat} {r : List Oper} {env : Env} {H : AH} {es : List (Nat × Evt)} {K : Env → AH → List (Nat × Evt) → Prop} {dst : Option Tmp} {ty : TypeId} {pos : String} {after : Array Edge} {op : Op}

theorem So_nil (h : K env H es) : So [] P ops m i env H es K := ⟨h⟩
theorem So_nilT {bits : Array Nat} {Q : Env → AH → Prop} (h : Q env H) (hb : ordOk bits es = true := by first | rfl | decide) : So [] P ops .tr i env H es (fun e h es => ordOk bits es = true ∧ Q e h) := ⟨⟨hb, h⟩⟩
theorem So_gy {j : Nat} {want : Bool} {d : Nat} (k : So (⟨dst, op, ty, pos, after, none⟩ :: r) P ops m i env H es K) (hj : (ops[j]?).bind (·.dst) = some d := by rfl) (hd : env d = vbool want := by rfl) : So (⟨dst, op, ty, pos, after, some (j, want)⟩ :: r) P ops m i env H es K := by
  have hw : wantedA ops env ⟨dst, op, ty, pos, after, some (j, want)⟩ = some true := by simp [wantedA, hj, hd]
  have k := k.un
  refine ⟨?_⟩
  simp only [So0, hw]
  simp only [So0, wantedA] at k
  exact k
theorem So_gn {j : Nat} {want : Bool} {d : Nat} (k : So r P ops m (i + 1) (putE env dst .und) H es K) (hj : (ops[j]?).bind (·.dst) = some d := by rfl) (hd : env d = vbool (!want) := by rfl) : So (⟨dst, op, ty, pos, after, some (j, want)⟩ :: r) P ops m i env H es K := by
  have hw : wantedA ops env ⟨dst, op, ty, pos, after, some (j, want)⟩ = some false := by cases want <;> simp [wantedA, hj, hd]
  refine ⟨?_⟩
  simp only [So0, hw]
  exact k.un
theorem So_gu {j : Nat} {want : Bool} {d : Nat} (k : So r P ops m (i + 1) (putE env dst .und) H es K) (hj : (ops[j]?).bind (·.dst) = some d := by rfl) (hd : env d = .und := by rfl) : So (⟨dst, op, ty, pos, after, some (j, want)⟩ :: r) P ops m i env H es K := by
  have hw : wantedA ops env ⟨dst, op, ty, pos, after, some (j, want)⟩ = some false := by simp [wantedA, hj, hd]
  refine ⟨?_⟩
  simp only [So0, hw]
  exact k.un
theorem upd_self {α : Type} {f : Nat → α} {k : Nat} {v : α} (h : f k = v) : upd f k v = f := by
  funext x; unfold upd; split
  · rename_i hx; rw [hx, h]
  · rfl
theorem So_g {j : Nat} {want t : Bool} {d : Nat} (k1 : t = want → So (⟨dst, op, ty, pos, after, none⟩ :: r) P ops m i (upd env d (vbool want)) H es K)
    (k2 : t = !want → So r P ops m (i + 1) (putE (upd env d (vbool (!want))) dst .und) H es K) (hj : (ops[j]?).bind (·.dst) = some d := by rfl) (hd : env d = vbool t := by rfl) : So (⟨dst, op, ty, pos, after, some (j, want)⟩ :: r) P ops m i env H es K := by
  by_cases ht : t = want
  · subst ht
    rw [upd_self hd] at k1
    exact So_gy (k1 rfl) hj hd
  · have ht : t = !want := by cases t <;> cases want <;> simp_all
    subst ht
    rw [upd_self hd] at k2
    exact So_gn (k2 rfl) hj hd

section
variable {j d : Nat} {p : Prop} [Decidable p]
theorem So_gT (k1 : p → So (⟨dst, op, ty, pos, after, none⟩ :: r) P ops m i (upd env d (vbool true)) H es K) (k2 : ¬p → So r P ops m (i + 1) (putE (upd env d (vbool false)) dst .und) H es K) (hj : (ops[j]?).bind (·.dst) = some d := by rfl) (hd : env d = vbool (decide p) := by rfl) :
    So (⟨dst, op, ty, pos, after, some (j, true)⟩ :: r) P ops m i env H es K := So_g (fun h => k1 (of_decide_eq_true h)) (fun h => k2 (of_decide_eq_false h)) hj hd
theorem So_gF (k1 : p → So r P ops m (i + 1) (putE (upd env d (vbool true)) dst .und) H es K) (k2 : ¬p → So (⟨dst, op, ty, pos, after, none⟩ :: r) P ops m i (upd env d (vbool false)) H es K) (hj : (ops[j]?).bind (·.dst) = some d := by rfl) (hd : env d = vbool (decide p) := by rfl) :
    So (⟨dst, op, ty, pos, after, some (j, false)⟩ :: r) P ops m i env H es K := So_g (fun h => k2 (of_decide_eq_false h)) (fun h => k1 (of_decide_eq_true h)) hj hd
theorem So_gTn (k1 : ¬p → So (⟨dst, op, ty, pos, after, none⟩ :: r) P ops m i (upd env d (vbool true)) H es K) (k2 : p → So r P ops m (i + 1) (putE (upd env d (vbool false)) dst .und) H es K) (hj : (ops[j]?).bind (·.dst) = some d := by rfl) (hd : env d = vbool (decide (¬p)) := by rfl) :
    So (⟨dst, op, ty, pos, after, some (j, true)⟩ :: r) P ops m i env H es K := So_gT k1 (fun h => k2 (Decidable.not_not.1 h)) hj hd
theorem So_gFn (k1 : ¬p → So r P ops m (i + 1) (putE (upd env d (vbool true)) dst .und) H es K) (k2 : p → So (⟨dst, op, ty, pos, after, none⟩ :: r) P ops m i (upd env d (vbool false)) H es K) (hj : (ops[j]?).bind (·.dst) = some d := by rfl) (hd : env d = vbool (decide (¬p)) := by rfl) :
    So (⟨dst, op, ty, pos, after, some (j, false)⟩ :: r) P ops m i env H es K := So_gF k1 (fun h => k2 (Decidable.not_not.1 h)) hj hd
variable {t : Bool}
theorem So_gTm (k1 : t = false → So (⟨dst, op, ty, pos, after, none⟩ :: r) P ops m i (upd env d (vbool true)) H es K) (k2 : t = true → So r P ops m (i + 1) (putE (upd env d (vbool false)) dst .und) H es K) (hj : (ops[j]?).bind (·.dst) = some d := by rfl) (hd : env d = vbool (!t) := by rfl) :
    So (⟨dst, op, ty, pos, after, some (j, true)⟩ :: r) P ops m i env H es K := So_g (fun h => k1 (by simpa using h)) (fun h => k2 (by simpa using h)) hj hd
theorem So_gFm (k1 : t = false → So r P ops m (i + 1) (putE (upd env d (vbool true)) dst .und) H es K) (k2 : t = true → So (⟨dst, op, ty, pos, after, none⟩ :: r) P ops m i (upd env d (vbool false)) H es K) (hj : (ops[j]?).bind (·.dst) = some d := by rfl) (hd : env d = vbool (!t) := by rfl) :
    So (⟨dst, op, ty, pos, after, some (j, false)⟩ :: r) P ops m i env H es K := So_g (fun h => k2 (by simpa using h)) (fun h => k1 (by simpa using h)) hj hd
theorem So_gTb (k1 : t = true → So (⟨dst, op, ty, pos, after, none⟩ :: r) P ops m i (upd env d (vbool true)) H es K) (k2 : t = false → So r P ops m (i + 1) (putE (upd env d (vbool false)) dst .und) H es K) (hj : (ops[j]?).bind (·.dst) = some d := by rfl) (hd : env d = vbool t := by rfl) :
    So (⟨dst, op, ty, pos, after, some (j, true)⟩ :: r) P ops m i env H es K := So_g k1 k2 hj hd
theorem So_gFb (k1 : t = true → So r P ops m (i + 1) (putE (upd env d (vbool true)) dst .und) H es K) (k2 : t = false → So (⟨dst, op, ty, pos, after, none⟩ :: r) P ops m i (upd env d (vbool false)) H es K) (hj : (ops[j]?).bind (·.dst) = some d := by rfl) (hd : env d = vbool t := by rfl) :
    So (⟨dst, op, ty, pos, after, some (j, false)⟩ :: r) P ops m i env H es K := So_g k2 k1 hj hd
end

theorem ad_still {i : Nat} {e : Evt} (h : e.touch = false) : ad m es i e = es := by cases m <;> simp [ad, h]
theorem So_aop {o : Oper} (hg : o.guard = none) (hne : ∀ f args ats, o.op ≠ .call { callee := .value f, args := args, argTypes := ats }) {v : AV} {d : Option (Nat × Blk)} (ha : aop P H.nx H.bl env o = some (v, d)) (hd : m = .st → d = none)
    (k : So r P ops m (i + 1) (putE env o.dst v) (H.app d) (ad m es i (evt env o H (.op d))) K) : So (o :: r) P ops m i env H es K := by
  have hw : wantedA ops env o = some true := by simp [wantedA, hg]
  refine ⟨?_⟩
  unfold So0
  rw [hw]
  simp only
  exact ⟨v, d, ha, hd, k.un⟩
/-- What looks at no memory. -/
theorem So_pure {o : Oper} (hg : o.guard = none) (hne : ∀ f args ats, o.op ≠ .call { callee := .value f, args := args, argTypes := ats }) {v : AV} (ha : aop P H.nx H.bl env o = some (v, none)) (hl : looks env o = [])
    (k : So r P ops m (i + 1) (putE env o.dst v) H es K) : So (o :: r) P ops m i env H es K :=
  So_aop hg hne ha (fun _ => rfl) (by rw [ad_still (by simp [evt, hl, Evt.touch])]; exact k)
/-- What reads. -/
theorem So_rd {o : Oper} (hg : o.guard = none) (hne : ∀ f args ats, o.op ≠ .call { callee := .value f, args := args, argTypes := ats }) {v : AV} {l : List Nat} (ha : aop P H.nx H.bl env o = some (v, none)) (hl : looks env o = l)
    (k : So r P ops m (i + 1) (putE env o.dst v) H (ad m es i (rdE l)) K) : So (o :: r) P ops m i env H es K :=
  So_aop hg hne ha (fun _ => rfl) (by rw [show evt env o H (.op none) = rdE l by simp [evt, hl]]; exact k)

section
variable {x : Operand}
theorem So_move (k : So r P ops m (i + 1) (putE env dst (evo env x)) H es K) : So (⟨dst, .move x, ty, pos, after, none⟩ :: r) P ops m i env H es K :=
  So_pure rfl (by intros; simp) rfl rfl k
theorem So_assign (k : So r P ops m (i + 1) (putE env dst (evo env x)) H es K) : So (⟨dst, .assign x, ty, pos, after, none⟩ :: r) P ops m i env H es K :=
  So_pure rfl (by intros; simp) rfl rfl k
theorem So_mc {c : Cell} (k : So r P ops m (i + 1) (putE env dst (.one c)) H es K) (hx : evo env x = .one c := by rfl) : So (⟨dst, .move x, ty, pos, after, none⟩ :: r) P ops m i env H es K := So_move (by rw [hx]; exact k)
theorem So_ma {c : List Cell} (k : So r P ops m (i + 1) (putE env dst (.agg c)) H es K) (hx : evo env x = .agg c := by rfl) : So (⟨dst, .move x, ty, pos, after, none⟩ :: r) P ops m i env H es K := So_move (by rw [hx]; exact k)
theorem So_mv {v : AV} (k : So r P ops m (i + 1) (putE env dst v) H es K) (hx : evo env x = v := by rfl) : So (⟨dst, .move x, ty, pos, after, none⟩ :: r) P ops m i env H es K := So_move (by rw [hx]; exact k)
theorem So_ac {c : Cell} (k : So r P ops m (i + 1) (putE env dst (.one c)) H es K) (hx : evo env x = .one c := by rfl) : So (⟨dst, .assign x, ty, pos, after, none⟩ :: r) P ops m i env H es K := So_assign (by rw [hx]; exact k)
theorem So_aa {c : List Cell} (k : So r P ops m (i + 1) (putE env dst (.agg c)) H es K) (hx : evo env x = .agg c := by rfl) : So (⟨dst, .assign x, ty, pos, after, none⟩ :: r) P ops m i env H es K := So_assign (by rw [hx]; exact k)
theorem So_av {v : AV} (k : So r P ops m (i + 1) (putE env dst v) H es K) (hx : evo env x = v := by rfl) : So (⟨dst, .assign x, ty, pos, after, none⟩ :: r) P ops m i env H es K := So_assign (by rw [hx]; exact k)
theorem So_pick {c y : Operand} {t : Bool} (hc : evo env c = vbool t) (k : So r P ops m (i + 1) (putE env dst (if t then evo env x else evo env y)) H es K) : So (⟨dst, .pick c x y, ty, pos, after, none⟩ :: r) P ops m i env H es K :=
  So_pure rfl (by intros; simp) (by simp only [aop, hc]) rfl k
theorem So_pb {c y : Operand} {t u w : Bool} (k : So r P ops m (i + 1) (putE env dst (vbool (if t then u else w))) H es K) (hc : evo env c = vbool t := by rfl) (hx : evo env x = vbool u := by rfl) (hy : evo env y = vbool w := by rfl) : So (⟨dst, .pick c x y, ty, pos, after, none⟩ :: r) P ops m i env H es K :=
  So_pick hc (by cases t <;> simp only [hx, hy] <;> exact k)
theorem So_pt {c y : Operand} {u : AV} (k : So r P ops m (i + 1) (putE env dst u) H es K) (hc : evo env c = vbool true := by rfl) (hx : evo env x = u := by rfl) : So (⟨dst, .pick c x y, ty, pos, after, none⟩ :: r) P ops m i env H es K := So_pick hc (by rw [if_pos rfl, hx]; exact k)
theorem So_pf {c y : Operand} {u : AV} (k : So r P ops m (i + 1) (putE env dst u) H es K) (hc : evo env c = vbool false := by rfl) (hx : evo env y = u := by rfl) : So (⟨dst, .pick c x y, ty, pos, after, none⟩ :: r) P ops m i env H es K := So_pick hc (by rw [if_neg (by simp), hx]; exact k)
end

/-! Numbers -/
theorem plain2 {o : Oper} {bop : BinOp} {t t' : TypeId} {x y : Operand} {u w : Value} {cu cw : Cell} {v : Value} {c : AV} (hop : o.op = .binOp bop t x y t') (hx : evo env x = .one cu) (hy : evo env y = .one cw) (hu : cu.toV = some u) (hw : cw.toV = some w)
    (he : ev P (do eqGuard bop t x y u w; binOp bop t u w) = some v) (hv : ofV v = some c) : plainOp P env o = some (c, none) := by
  unfold plainOp
  rw [if_pos]
  · have : execOp (fun x => ((evo env x).toV).getD undef) o = (do pure (.value (← (do eqGuard bop t x y u w; binOp bop t u w)))) := by
      unfold execOp
      simp only [hop, hx, hy, AV.toV, hu, hw, Option.getD_some]
    rw [this]
    have : ∀ (s : Sem Value), ev P s = some v → ev P (do pure (Next.value (← s))) = some (Next.value v) := by
      intro s hs
      induction s with
      | pure b => simp only [ev] at hs; injection hs with hs; subst hs; rfl
      | program k ih => exact ih P hs
      | mark m k ih => exact ih hs
      | _ => simp [ev] at hs
    rw [this _ he]
    simp only [hv]
    rfl
  · rw [hop]; simp [Op.operands, hx, hy, AV.toV, hu, hw]

theorem aop_bin {o : Oper} {bop : BinOp} {t t' : TypeId} {x y : Operand} {u w : Value} {v : Value} {c : AV} {nw : Nat} {bl : Nat → Blk} (hop : o.op = .binOp bop t x y t') (hx : evo env x = .one (.sc u)) (hy : evo env y = .one (.sc w))
    (he : ev P (do eqGuard bop t x y u w; binOp bop t u w) = some v) (hv : ofV v = some c) : aop P nw bl env o = some (c, none) := by
  have hp := plain2 (P := P) hop hx hy rfl rfl he hv
  have hnil : eqNil P env bop t x y = none := by
    unfold eqNil
    rw [hx, hy]
    cases P.underlying t with
    | none => rfl
    | some k => cases k <;> simp [unlike]
  unfold aop
  rw [hop]
  simp only
  cases bop <;> simp only [hnil, hp]

section
variable {t t' : TypeId} {x y : Operand} {a b : Int}
theorem So_bin {bop : BinOp} {u w v : Value} {c : AV} (k : So r P ops m (i + 1) (putE env dst c) H es K) (hx : evo env x = .one (.sc u)) (hy : evo env y = .one (.sc w)) (he : ev P (do eqGuard bop t x y u w; binOp bop t u w) = some v) (hv : ofV v = some c) :
    So (⟨dst, .binOp bop t x y t', ty, pos, after, none⟩ :: r) P ops m i env H es K := So_pure rfl (by intros; simp) (aop_bin rfl hx hy he hv) rfl k
theorem So_lss (k : So r P ops m (i + 1) (putE env dst (vbool (decide (a < b)))) H es K) (hx : evo env x = vint a := by rfl) (hy : evo env y = vint b := by rfl) : So (⟨dst, .binOp .lss t x y t', ty, pos, after, none⟩ :: r) P ops m i env H es K := So_bin k hx hy rfl rfl
theorem So_leq (k : So r P ops m (i + 1) (putE env dst (vbool (decide (a ≤ b)))) H es K) (hx : evo env x = vint a := by rfl) (hy : evo env y = vint b := by rfl) : So (⟨dst, .binOp .leq t x y t', ty, pos, after, none⟩ :: r) P ops m i env H es K := So_bin k hx hy rfl rfl
theorem So_gtr (k : So r P ops m (i + 1) (putE env dst (vbool (decide (b < a)))) H es K) (hx : evo env x = vint a := by rfl) (hy : evo env y = vint b := by rfl) : So (⟨dst, .binOp .gtr t x y t', ty, pos, after, none⟩ :: r) P ops m i env H es K := So_bin k hx hy rfl rfl
theorem So_geq (k : So r P ops m (i + 1) (putE env dst (vbool (decide (b ≤ a)))) H es K) (hx : evo env x = vint a := by rfl) (hy : evo env y = vint b := by rfl) : So (⟨dst, .binOp .geq t x y t', ty, pos, after, none⟩ :: r) P ops m i env H es K := So_bin k hx hy rfl rfl
theorem So_eql (k : So r P ops m (i + 1) (putE env dst (vbool (decide (a = b)))) H es K) (hx : evo env x = vint a := by rfl) (hy : evo env y = vint b := by rfl) : So (⟨dst, .binOp .eql t x y t', ty, pos, after, none⟩ :: r) P ops m i env H es K :=
  So_bin (c := vbool (a == b)) k hx hy rfl rfl
theorem So_neq (k : So r P ops m (i + 1) (putE env dst (vbool (decide (a ≠ b)))) H es K) (hx : evo env x = vint a := by rfl) (hy : evo env y = vint b := by rfl) : So (⟨dst, .binOp .neq t x y t', ty, pos, after, none⟩ :: r) P ops m i env H es K :=
  So_bin (c := vbool (a != b)) (by
    have : (a != b) = decide (a ≠ b) := by simp [bne, BEq.beq]
    rw [this]; exact k) hx hy rfl rfl
def fits (n : Int) : Prop := -9223372036854775808 ≤ n ∧ n < 9223372036854775808
theorem wrap_fits {n : Int} (h : fits n) : IntKind.i64.wrap n = n := by
  obtain ⟨h1, h2⟩ := h
  have e : IntKind.i64.wrap n = if n % 18446744073709551616 ≥ 9223372036854775808 then n % 18446744073709551616 - 18446744073709551616 else n % 18446744073709551616 := by
    unfold IntKind.wrap
    have s : IntKind.i64.signed = true := rfl
    have b : IntKind.i64.bits = 64 := rfl
    rw [s, b]
    simp
  rw [e]
  split <;> omega
theorem So_add (k : So r P ops m (i + 1) (putE env dst (vint (a + b))) H es K) (hx : evo env x = vint a := by rfl) (hy : evo env y = vint b := by rfl) (hf : fits (a + b) := by first | assumption | (unfold fits; omega)) : So (⟨dst, .binOp .add t x y t', ty, pos, after, none⟩ :: r) P ops m i env H es K :=
  So_bin (c := vint (IntKind.i64.wrap (a + b))) (by rw [wrap_fits hf]; exact k) hx hy rfl rfl
theorem So_sub (k : So r P ops m (i + 1) (putE env dst (vint (a - b))) H es K) (hx : evo env x = vint a := by rfl) (hy : evo env y = vint b := by rfl) (hf : fits (a - b) := by first | assumption | (unfold fits; omega)) : So (⟨dst, .binOp .sub t x y t', ty, pos, after, none⟩ :: r) P ops m i env H es K :=
  So_bin (c := vint (IntKind.i64.wrap (a - b))) (by rw [wrap_fits hf]; exact k) hx hy rfl rfl
theorem So_mul (k : So r P ops m (i + 1) (putE env dst (vint (a * b))) H es K) (hx : evo env x = vint a := by rfl) (hy : evo env y = vint b := by rfl) (hf : fits (a * b) := by first | assumption | (unfold fits; omega)) : So (⟨dst, .binOp .mul t x y t', ty, pos, after, none⟩ :: r) P ops m i env H es K :=
  So_bin (c := vint (IntKind.i64.wrap (a * b))) (by rw [wrap_fits hf]; exact k) hx hy rfl rfl
theorem fits_tdiv {a b : Int} (ha : -9223372036854775808 < a ∧ a < 9223372036854775808) : fits (a.tdiv b) := by
  have h1 := Int.natAbs_tdiv_le_natAbs a b
  unfold fits
  omega
theorem So_quo (k : So r P ops m (i + 1) (putE env dst (vint (a.tdiv b))) H es K) (hx : evo env x = vint a := by rfl) (hy : evo env y = vint b := by rfl) (hb : b ≠ 0 := by first | assumption | omega) (ha : -9223372036854775808 < a ∧ a < 9223372036854775808 := by first | assumption | omega) :
    So (⟨dst, .binOp .quo t x y t', ty, pos, after, none⟩ :: r) P ops m i env H es K := by
  refine So_bin (v := .int .i64 (IntKind.i64.wrap (a.tdiv b))) (c := vint (IntKind.i64.wrap (a.tdiv b))) (by rw [wrap_fits (fits_tdiv ha)]; exact k) hx hy ?_ rfl
  show ev P (if b = 0 then runtimePanic _ else _) = _
  rw [if_neg hb]
  rfl
theorem So_rem (k : So r P ops m (i + 1) (putE env dst (vint (a.tmod b))) H es K) (hx : evo env x = vint a := by rfl) (hy : evo env y = vint b := by rfl) (hb : b ≠ 0 := by first | assumption | omega) :
    So (⟨dst, .binOp .rem t x y t', ty, pos, after, none⟩ :: r) P ops m i env H es K := by
  refine So_bin (v := .int .i64 (a.tmod b)) (c := vint (a.tmod b)) k hx hy ?_ rfl
  show ev P (if b = 0 then runtimePanic _ else _) = _
  rw [if_neg hb]
  rfl
theorem So_not {t : TypeId} {b : Bool} (k : So r P ops m (i + 1) (putE env dst (vbool (!b))) H es K) (hx : evo env x = vbool b := by rfl) : So (⟨dst, .unOp .not t x, ty, pos, after, none⟩ :: r) P ops m i env H es K := by
  refine So_pure rfl (by intros; simp) (v := vbool (!b)) ?_ rfl k
  have e : execOp (fun x => ((evo env x).toV).getD undef) ⟨dst, .unOp .not t x, ty, pos, after, none⟩ = (do pure (.value (← Op.unary .not (.bool b)))) := by
    unfold execOp
    simp only [hx, AV.toV, Cell.toV, Option.getD_some]
  simp only [aop, plainOp]
  rw [if_pos (by simp [Op.operands, hx, AV.toV, Cell.toV]), e]
  rfl
theorem So_notd {t : TypeId} {p : Prop} [Decidable p] (k : So r P ops m (i + 1) (putE env dst (vbool (decide (¬p)))) H es K) (hx : evo env x = vbool (decide p) := by rfl) : So (⟨dst, .unOp .not t x, ty, pos, after, none⟩ :: r) P ops m i env H es K :=
  So_not (by rw [← decide_not]; exact k) hx
theorem So_neg {t : TypeId} {a : Int} (k : So r P ops m (i + 1) (putE env dst (vint (-a))) H es K) (hx : evo env x = vint a := by rfl) (hf : fits (-a) := by first | assumption | (unfold fits; omega)) : So (⟨dst, .unOp .neg t x, ty, pos, after, none⟩ :: r) P ops m i env H es K := by
  refine So_pure rfl (by intros; simp) (v := vint (IntKind.i64.wrap (0 - a))) ?_ rfl (by rw [Int.zero_sub, wrap_fits hf]; exact k)
  have e : execOp (fun x => ((evo env x).toV).getD undef) ⟨dst, .unOp .neg t x, ty, pos, after, none⟩ = (do pure (.value (← Op.unary .neg (.int .i64 a)))) := by
    unfold execOp
    simp only [hx, AV.toV, Cell.toV, Option.getD_some]
  simp only [aop, plainOp]
  rw [if_pos (by simp [Op.operands, hx, AV.toV, Cell.toV]), e]
  rfl
end
section
variable {x : Operand}
theorem So_ex {j : Nat} {xs : List AV} {v : AV} (k : So r P ops m (i + 1) (putE env dst v) H es K) (hx : evo env x = .tup xs := by rfl) (hv : xs[j]? = some v := by rfl) : So (⟨dst, .extract x j, ty, pos, after, none⟩ :: r) P ops m i env H es K :=
  So_pure rfl (by intros; simp) (v := v) (by simp only [aop, hx, hv]; rfl) rfl k
theorem So_mf {f : FuncId} {xs ys : Array Operand} {p q : List Cell} (k : So r P ops m (i + 1) (putE env dst (.one (.fn (.func f) p q))) H es K) (hp : xs.toList.mapM (fun x => (evo env x).cell) = some p := by rfl) (hq : ys.toList.mapM (fun x => (evo env x).cell) = some q := by rfl) :
    So (⟨dst, .makeFunc (.func f) xs ys, ty, pos, after, none⟩ :: r) P ops m i env H es K :=
  So_pure rfl (by intros; simp) (by simp only [aop, hp, hq]) rfl k

/-! Memory -/
section
variable {s : TypeId} {f off n : Nat} {agg : Bool}
theorem So_fa [I : FD P s f off agg n] {h o : Nat} (k : So r P ops m (i + 1) (putE env dst (.one (.bp h (o + off)))) H es K) (hx : evo env x = .one (.bp h o) := by rfl) : So (⟨dst, .fieldAddr s x f, ty, pos, after, none⟩ :: r) P ops m i env H es K := by
  refine So_pure rfl (by intros; simp) ?_ rfl k
  obtain ⟨fields, fl, h1, h2, h3, h4, h5, h6⟩ := I.eq
  obtain ⟨m, rfl⟩ : ∃ m, n = m + 1 := ⟨n - 1, by omega⟩
  simp only [aop, h1, hx, AV.cell, h2, h5, h3]
theorem So_fe [I : FD P s f off agg n] {c : Cell} {sz j o : Nat} (k : So r P ops m (i + 1) (putE env dst (.one (.ep c sz j (o + off)))) H es K) (hx : evo env x = .one (.ep c sz j o) := by rfl) : So (⟨dst, .fieldAddr s x f, ty, pos, after, none⟩ :: r) P ops m i env H es K := by
  refine So_pure rfl (by intros; simp) ?_ rfl k
  obtain ⟨fields, fl, h1, h2, h3, h4, h5, h6⟩ := I.eq
  obtain ⟨m, rfl⟩ : ∃ m, n = m + 1 := ⟨n - 1, by omega⟩
  simp only [aop, h1, hx, AV.cell, h2, h5, h3]
theorem So_f [I : FD P s f off false n] {cs : List Cell} {c : Cell} (k : So r P ops m (i + 1) (putE env dst (.one c)) H es K) (hx : evo env x = .agg cs := by rfl) (hc : cs[off]? = some c := by rfl) : So (⟨dst, .field s x f, ty, pos, after, none⟩ :: r) P ops m i env H es K := by
  refine So_pure rfl (by intros; simp) ?_ rfl k
  obtain ⟨fields, fl, h1, h2, h3, h4, h5, h6⟩ := I.eq
  simp only [aop, h1, hx, h2, h4, h3, hc]
  rfl
theorem So_ff [I : FD P s f off true n] {cs : List Cell} (k : So r P ops m (i + 1) (putE env dst (.agg ((cs.drop off).take n))) H es K) (hx : evo env x = .agg cs := by rfl) (hl : off + n ≤ cs.length := by exact Nat.le_of_ble_eq_true rfl) : So (⟨dst, .field s x f, ty, pos, after, none⟩ :: r) P ops m i env H es K := by
  refine So_pure rfl (by intros; simp) ?_ rfl k
  obtain ⟨fields, fl, h1, h2, h3, h4, h5, h6⟩ := I.eq
  simp only [aop, h1, hx, h2, h4, h5, h3, if_pos hl]
end

theorem take1 {α : Type} {l : List α} {o : Nat} {c : α} (hc : l[o]? = some c) : (l.drop o).take 1 = [c] := by
  have hlt := (List.getElem?_eq_some_iff.1 hc).1
  rw [List.drop_eq_getElem_cons hlt]
  have := (List.getElem?_eq_some_iff.1 hc).2
  simp [this]
variable {t : TypeId} {H0 : AH} {l : List (Nat × Blk)}
theorem So_lb {h o : Nat} {cs : List Cell} {c : Cell} [I : AG P t false] (k : So r P ops m (i + 1) (putE env dst (.one c)) H (ad m es i (rdE [h])) K) (hx : evo env x = .one (.bp h o) := by rfl) (hs : Hs H0 H l := by assumption) (hb : (h, .box cs) ∈ l := by first | exact .head _ | exact .tail _ (.head _) | exact .tail _ (.tail _ (.head _)) | exact .tail _ (.tail _ (.tail _ (.head _))) | exact .tail _ (.tail _ (.tail _ (.tail _ (.head _)))) | exact .tail _ (.tail _ (.tail _ (.tail _ (.tail _ (.head _)))))) (hc : cs[o]? = some c := by rfl) :
    So (⟨dst, .load t x, ty, pos, after, none⟩ :: r) P ops m i env H es K := by
  refine So_rd rfl (by intros; simp) (l := [h]) ?_ (by simp [looks, hx, refsV, refsC]) k
  have hb := hs.at_ _ hb
  have hlt := (List.getElem?_eq_some_iff.1 hc).1
  simp only at hb
  simp only [aop, hx, AV.cell, I.eq, rdPtr, hb, if_pos (show o + 1 ≤ cs.length from hlt), take1 hc]
theorem So_la {h o n : Nat} {cs : List Cell} [I : AG P t true] [J : SZ P t n] (k : So r P ops m (i + 1) (putE env dst (.agg ((cs.drop o).take n))) H (ad m es i (rdE [h])) K) (hx : evo env x = .one (.bp h o) := by rfl) (hs : Hs H0 H l := by assumption) (hb : (h, .box cs) ∈ l := by first | exact .head _ | exact .tail _ (.head _) | exact .tail _ (.tail _ (.head _)) | exact .tail _ (.tail _ (.tail _ (.head _))) | exact .tail _ (.tail _ (.tail _ (.tail _ (.head _)))) | exact .tail _ (.tail _ (.tail _ (.tail _ (.tail _ (.head _)))))) (hl : o + n ≤ cs.length := by exact Nat.le_of_ble_eq_true rfl) :
    So (⟨dst, .load t x, ty, pos, after, none⟩ :: r) P ops m i env H es K := by
  refine So_rd rfl (by intros; simp) (l := [h]) ?_ (by simp [looks, hx, refsV, refsC]) k
  have hb := hs.at_ _ hb
  simp only at hb
  simp only [aop, hx, AV.cell, I.eq, J.eq, rdPtr, hb, if_pos hl]
  rfl
theorem So_le {a : Cell} {sz j o : Nat} {rows : List (List Cell)} {row : List Cell} {c : Cell} [I : AG P t false] (hx : evo env x = .one (.ep a sz j o)) (hr : Rw H sz a rows) (hi : rows[j]? = some row) (hc : row[o]? = some c) (k : So r P ops m (i + 1) (putE env dst (.one c)) H (ad m es i (rdE (refsC a))) K) :
    So (⟨dst, .load t x, ty, pos, after, none⟩ :: r) P ops m i env H es K := by
  refine So_rd rfl (by intros; simp) (l := refsC a) ?_ (by simp [looks, hx, refsV, refsC]) k
  have hlt := (List.getElem?_eq_some_iff.1 hc).1
  simp only [aop, hx, AV.cell, I.eq, rdPtr, hr.rows, hi, if_pos (show o + 1 ≤ row.length from hlt), take1 hc]
theorem So_lea {a : Cell} {sz j o n : Nat} {rows : List (List Cell)} {row : List Cell} [I : AG P t true] [J : SZ P t n] (hx : evo env x = .one (.ep a sz j o)) (hr : Rw H sz a rows) (hi : rows[j]? = some row) (hl : o + n ≤ row.length) (k : So r P ops m (i + 1) (putE env dst (.agg ((row.drop o).take n))) H (ad m es i (rdE (refsC a))) K) :
    So (⟨dst, .load t x, ty, pos, after, none⟩ :: r) P ops m i env H es K := by
  refine So_rd rfl (by intros; simp) (l := refsC a) ?_ (by simp [looks, hx, refsV, refsC]) k
  simp only [aop, hx, AV.cell, I.eq, J.eq, rdPtr, hr.rows, hi, if_pos hl]
  rfl
section
variable {α : Type} {a : Cell} {sz j o n : Nat} {f : α → List Cell} {ll : List α} {e : α}
/-- A cell of a row, where the rows are made of a list's elements; the element is known. -/
theorem So_lx {c : Cell} [I : AG P t false] (k : So r P ops m (i + 1) (putE env dst (.one c)) H (ad m es i (rdE (refsC a))) K) (hx : evo env x = .one (.ep a sz j o) := by rfl) (hr : Rw H sz a (ll.map f) := by first | exact .lst | exact (Sl.up (by assumption) (by assumption)).toRw | exact (Sl.arr (by assumption) (by first | exact .head _ | exact .tail _ (.head _) | exact .tail _ (.tail _ (.head _)) | exact .tail _ (.tail _ (.tail _ (.head _))) | exact .tail _ (.tail _ (.tail _ (.tail _ (.head _)))) | exact .tail _ (.tail _ (.tail _ (.tail _ (.tail _ (.head _)))))) rfl).toRw) (he : ll[j]? = some e := by assumption) (hc : (f e)[o]? = some c := by rfl) :
    So (⟨dst, .load t x, ty, pos, after, none⟩ :: r) P ops m i env H es K :=
  So_le hx hr (row := f e) (by rw [List.getElem?_map, he]; rfl) hc k
theorem So_lxa [I : AG P t true] [J : SZ P t n] (k : So r P ops m (i + 1) (putE env dst (.agg (((f e).drop o).take n))) H (ad m es i (rdE (refsC a))) K) (hx : evo env x = .one (.ep a sz j o) := by rfl) (hr : Rw H sz a (ll.map f) := by first | exact .lst | exact (Sl.up (by assumption) (by assumption)).toRw | exact (Sl.arr (by assumption) (by first | exact .head _ | exact .tail _ (.head _) | exact .tail _ (.tail _ (.head _)) | exact .tail _ (.tail _ (.tail _ (.head _))) | exact .tail _ (.tail _ (.tail _ (.tail _ (.head _)))) | exact .tail _ (.tail _ (.tail _ (.tail _ (.tail _ (.head _)))))) rfl).toRw) (he : ll[j]? = some e := by assumption) (hl : ∀ e, o + n ≤ (f e).length := by exact fun _ => Nat.le_of_ble_eq_true rfl) :
    So (⟨dst, .load t x, ty, pos, after, none⟩ :: r) P ops m i env H es K :=
  So_lea hx hr (row := f e) (by rw [List.getElem?_map, he]; rfl) (hl e) k
/-- The element is new. -/
theorem So_ln {g : α → Cell} [I : AG P t false] (k : ∀ e, ll[j]? = some e → So r P ops m (i + 1) (putE env dst (.one (g e))) H (ad m es i (rdE (refsC a))) K) (hx : evo env x = .one (.ep a sz j o) := by rfl) (hr : Rw H sz a (ll.map f) := by first | exact .lst | exact (Sl.up (by assumption) (by assumption)).toRw | exact (Sl.arr (by assumption) (by first | exact .head _ | exact .tail _ (.head _) | exact .tail _ (.tail _ (.head _)) | exact .tail _ (.tail _ (.tail _ (.head _))) | exact .tail _ (.tail _ (.tail _ (.tail _ (.head _)))) | exact .tail _ (.tail _ (.tail _ (.tail _ (.tail _ (.head _)))))) rfl).toRw) (hlt : j < ll.length := by omega) (hc : ∀ e, (f e)[o]? = some (g e) := by exact fun _ => rfl) :
    So (⟨dst, .load t x, ty, pos, after, none⟩ :: r) P ops m i env H es K :=
  So_lx (k _ (List.getElem?_eq_getElem hlt)) hx hr (List.getElem?_eq_getElem hlt) (hc _)
theorem So_lna [I : AG P t true] [J : SZ P t n] (k : ∀ e, ll[j]? = some e → So r P ops m (i + 1) (putE env dst (.agg (((f e).drop o).take n))) H (ad m es i (rdE (refsC a))) K) (hx : evo env x = .one (.ep a sz j o) := by rfl) (hr : Rw H sz a (ll.map f) := by first | exact .lst | exact (Sl.up (by assumption) (by assumption)).toRw | exact (Sl.arr (by assumption) (by first | exact .head _ | exact .tail _ (.head _) | exact .tail _ (.tail _ (.head _)) | exact .tail _ (.tail _ (.tail _ (.head _))) | exact .tail _ (.tail _ (.tail _ (.tail _ (.head _)))) | exact .tail _ (.tail _ (.tail _ (.tail _ (.tail _ (.head _)))))) rfl).toRw) (hlt : j < ll.length := by omega) (hl : ∀ e, o + n ≤ (f e).length := by exact fun _ => Nat.le_of_ble_eq_true rfl) :
    So (⟨dst, .load t x, ty, pos, after, none⟩ :: r) P ops m i env H es K :=
  So_lxa (k _ (List.getElem?_eq_getElem hlt)) hx hr (List.getElem?_eq_getElem hlt) hl
end
theorem ev_bind {α β : Type} {s : Sem α} {k : α → Sem β} : ev P (s >>= k) = (ev P s).bind (fun a => ev P (k a)) := by
  show ev P (Sem.bind s k) = _
  induction s with
  | pure b => simp [Sem.bind, ev]
  | program g ih => simp only [Sem.bind, ev]; exact ih P
  | mark m g ih => simp only [Sem.bind, ev]; exact ih
  | _ => simp [Sem.bind, ev]
theorem ev_underlying {t : TypeId} {d : TypeDesc} (h : P.underlying t = some d) : ev P (underlying t) = some d := by
  unfold underlying
  rw [ev_bind, show ev P program = some P from rfl]
  simp only [Option.bind_some, h]
  rfl
theorem So_len0 {e : TypeId} [I : UL P t (.slice e)] (k : So r P ops m (i + 1) (putE env dst (vint 0)) H es K) (hx : evo env x = .one cnil := by rfl) :
    So (⟨dst, .call { callee := .builtin .len, args := #[x], argTypes := #[t] }, ty, pos, after, none⟩ :: r) P ops m i env H es K := by
  refine So_pure rfl (by intros; simp) (v := vint 0) ?_ (by simp [looks, hx, refsV, refsC]) k
  have hp : plainOp P env ⟨dst, .call { callee := .builtin .len, args := #[x], argTypes := #[t] }, ty, pos, after, none⟩ = some (vint 0, none) := by
    unfold plainOp
    rw [if_pos (by simp [Op.operands, Call.operands, hx, AV.toV, Cell.toV])]
    have : ev P (execOp (fun x => ((evo env x).toV).getD undef) ⟨dst, .call { callee := .builtin .len, args := #[x], argTypes := #[t] }, ty, pos, after, none⟩) = some (.value (.int .i64 0)) := by
      unfold execOp
      simp only [resolve, List.map_toArray, List.map_cons, List.map_nil, hx, AV.toV, Cell.toV, Option.getD_some, pure_bind, invoke, builtin]
      simp only [ev_bind, Builtin.len_, List.getElem?_toArray, List.getElem?_cons_zero, ev_underlying I.eq, Option.bind_some]
      rfl
    rw [this]
    rfl
  simp only [aop, aopBuiltin, hx, AV.cell, hp]
theorem So_len {e : TypeId} {sz n : Nat} {c : Cell} {rows : List (List Cell)} [I : UL P t (.slice e)] (k : So r P ops m (i + 1) (putE env dst (vint n)) H (ad m es i (rdE (refsC c))) K) (hx : evo env x = .one c := by rfl) (hr : Rw H sz c rows := by first | exact .lst | exact (Sl.up (by assumption) (by assumption)).toRw | exact (Sl.arr (by assumption) (by first | exact .head _ | exact .tail _ (.head _) | exact .tail _ (.tail _ (.head _)) | exact .tail _ (.tail _ (.tail _ (.head _))) | exact .tail _ (.tail _ (.tail _ (.tail _ (.head _)))) | exact .tail _ (.tail _ (.tail _ (.tail _ (.tail _ (.head _)))))) rfl).toRw) (hn : rows.length = n := by first | exact List.length_map _ | rfl) :
    So (⟨dst, .call { callee := .builtin .len, args := #[x], argTypes := #[t] }, ty, pos, after, none⟩ :: r) P ops m i env H es K := by
  subst hn
  have h3 := hr.rows
  cases c with
  | sc v =>
    unfold rowsOf at h3
    split at h3
    · rename_i heq
      injection heq with heq
      injection h3 with h3
      subst heq h3
      rw [ad_still rfl] at k
      exact So_len0 k hx
    · rename_i heq; cases heq
    · rename_i heq; cases heq
    · rename_i heq; cases heq
    · cases h3
  | mp h => simp [rowsOf] at h3
  | _ =>
    refine So_rd rfl (by intros; simp) (v := vint rows.length) (l := refsC _) ?_ (by simp [looks, hx, refsV]) k
    have h1 : (#[t] : Array TypeId)[0]?.bind P.underlying = some (.slice e) := I.eq
    have h2 := hr.len
    simp only [aop, aopBuiltin, hx, AV.cell, h2, h1]
theorem So_ia {ix : Operand} {e : TypeId} {s j : Nat} {c : Cell} {a : Int} {rows : List (List Cell)} [I : UL P t (.slice e)] [J : SZ P e s] (k : So r P ops m (i + 1) (putE env dst (.one (.ep c s j 0))) H (ad m es i (rdE (refsC c))) K) (hx : evo env x = .one c := by rfl) (hi : evo env ix = vint a := by rfl) (hj : IsN a j := by first | exact .z | exact .o | exact .s | exact .c | exact .p .c (by omega) | exact .t (by omega)) (hr : Rw H s c rows := by first | exact .lst | exact (Sl.up (by assumption) (by assumption)).toRw | exact (Sl.arr (by assumption) (by first | exact .head _ | exact .tail _ (.head _) | exact .tail _ (.tail _ (.head _)) | exact .tail _ (.tail _ (.tail _ (.head _))) | exact .tail _ (.tail _ (.tail _ (.tail _ (.head _)))) | exact .tail _ (.tail _ (.tail _ (.tail _ (.tail _ (.head _)))))) rfl).toRw) (h0 : j < rows.length := by first | omega | (simp only [List.length_map]; omega)) :
    So (⟨dst, .indexAddr t x ix, ty, pos, after, none⟩ :: r) P ops m i env H es K := by
  refine So_rd rfl (by intros; simp) (l := refsC c) ?_ (by simp [looks, hx, refsV]) k
  have h1 := hj.eq
  have h2 : 0 ≤ a ∧ a < (rows.length : Int) := by omega
  have h3 : a.toNat = j := by omega
  simp only [aop, I.eq, hx, hi, AV.cell, intOf?, J.eq, hr.len, hr.rows, if_pos h2, h3]

theorem So_box {e : TypeId} {cs : List Cell} (k : ∀ h H', Hs H0 H' ((h, .box cs) :: l) → So r P ops m (i + 1) (putE env dst (.one (.bp h 0))) H' (ad m es i (wrE [] h true)) K) (hm : m ≠ .st := by decide) (hx : (evo env x).cells = some cs := by rfl) (hs : Hs H0 H l := by assumption) : So (⟨dst, .box e x, ty, pos, after, none⟩ :: r) P ops m i env H es K :=
  So_aop rfl (by intros; simp) (d := some (H.nx, .box cs)) (by simp only [aop, hx]; rfl) (fun h => absurd h hm) (by
    have := k H.nx _ (hs.new (.box cs))
    simpa [evt, looks] using this)
theorem So_alloc {e : TypeId} {cs : List Cell} [I : ZC P e cs] (k : ∀ h H', Hs H0 H' ((h, .box cs) :: l) → So r P ops m (i + 1) (putE env dst (.one (.bp h 0))) H' (ad m es i (wrE [] h true)) K) (hm : m ≠ .st := by decide) (hs : Hs H0 H l := by assumption) : So (⟨dst, .alloc e, ty, pos, after, none⟩ :: r) P ops m i env H es K :=
  So_aop rfl (by intros; simp) (d := some (H.nx, .box cs)) (by simp only [aop, I.eq]; rfl) (fun h => absurd h hm) (by
    have := k H.nx _ (hs.new (.box cs))
    simpa [evt, looks] using this)
theorem So_st {y : Operand} {h o n : Nat} {cs vs : List Cell} {l' : List (Nat × Blk)} [I : SZ P t n] (k : ∀ H', Hs H0 H' l' → So r P ops m (i + 1) (putE env dst .und) H' (ad m es i (wrE [h] h false)) K) (hm : m ≠ .st := by decide) (hx : evo env x = .one (.bp h o) := by rfl) (hy : (evo env y).cells = some vs := by rfl) (hs : Hs H0 H l := by assumption) (hb : Put l h (.box cs) (.box (putCells cs o vs)) l' := by first | exact .head | exact .tail .head | exact .tail (.tail .head) | exact .tail (.tail (.tail .head)) | exact .tail (.tail (.tail (.tail .head))) | exact .tail (.tail (.tail (.tail (.tail .head))))) (hn : vs.length = n := by rfl) (hl : o + vs.length ≤ cs.length := by exact Nat.le_of_ble_eq_true rfl) :
    So (⟨dst, .store t x y, ty, pos, after, none⟩ :: r) P ops m i env H es K := by
  subst hn
  have hb' := hs.at_ _ hb.mem
  have hlt := (hs.ge _ hb.mem).2
  simp only at hb' hlt
  refine So_aop rfl (by intros; simp) (d := some (h, .box (putCells cs o vs))) (by simp only [aop, hx, hy, AV.cell, I.eq, wrPtr, hb', if_pos hl]; rfl) (fun h => absurd h hm) ?_
  have := k _ (hs.put hb)
  have e : evt env ⟨dst, .store t x y, ty, pos, after, none⟩ H (.op (some (h, .box (putCells cs o vs)))) = wrE [h] h false := by
    simp only [evt, looks, hx, refsV, refsC, Option.map_some]
    congr
    simp; omega
  rw [e]
  exact this
/-- An element of a slice of one's own is written. -/
theorem So_se {y : Operand} {h n sz j o w : Nat} {rows : List (List Cell)} {row vs : List Cell} {l' : List (Nat × Blk)} [I : SZ P t w] (hw : vs.length = w) (hm : m ≠ .st) (hx : evo env x = .one (.ep (.sl h n 0 n) sz j o)) (hy : (evo env y).cells = some vs) (hs : Hs H0 H l) (hrow : rows[j]? = some row) (hn : rows.length = n) (hl : o + vs.length ≤ row.length)
    (hb : Put l h (.arr sz rows) (.arr sz (rows.set j (putCells row o vs))) l') (k : ∀ H', Hs H0 H' l' → So r P ops m (i + 1) (putE env dst .und) H' (ad m es i (wrE [h] h false)) K) :
    So (⟨dst, .store t x y, ty, pos, after, none⟩ :: r) P ops m i env H es K := by
  subst hw
  have hb' := hs.at_ _ hb.mem
  have hlt := (hs.ge _ hb.mem).2
  have hj := (List.getElem?_eq_some_iff.1 hrow).1
  simp only at hb' hlt
  refine So_aop rfl (by intros; simp) (v := .und) (d := some (h, .arr sz (rows.set j (putCells row o vs)))) ?_ (fun h => absurd h hm) ?_
  · simp only [aop, hx, hy, AV.cell, I.eq, wrPtr, hb']
    rw [if_pos trivial, if_pos ⟨trivial, hn, by omega⟩]
    simp only [Nat.zero_add, hrow, if_pos hl]
    rfl
  have := k _ (hs.put hb)
  have e : evt env ⟨dst, .store t x y, ty, pos, after, none⟩ H (.op (some (h, .arr sz (rows.set j (putCells row o vs))))) = wrE [h] h false := by
    simp only [evt, looks, hx, refsV, refsC, Option.map_some]
    congr
    simp; omega
  rw [e]
  exact this
end

/-! Calls -/
theorem So_call {f : Operand} {args : Array Operand} {ats : Array TypeId} {fc : Cell} {R : AV → Eff → Prop} (hf : (evo env f).cell = some fc) (hc : Cc P fc (args.toList.map (evo env)) H R) (k : ∀ v e, R v e → (m = .st → e = .clean) ∧ So r P ops m (i + 1) (putE env dst v) (e.app H) (ad m es i (evt env ⟨dst, .call { callee := .value f, args := args, argTypes := ats }, ty, pos, after, none⟩ H (.call e))) K) :
    So (⟨dst, .call { callee := .value f, args := args, argTypes := ats }, ty, pos, after, none⟩ :: r) P ops m i env H es K := by
  have hw : wantedA ops env ⟨dst, .call { callee := .value f, args := args, argTypes := ats }, ty, pos, after, none⟩ = some true := rfl
  refine ⟨?_⟩
  unfold So0
  rw [hw]
  exact ⟨fc, hf, hc.mono (fun v e h => ⟨(k v e h).1, (k v e h).2.un⟩)⟩
/-- A call of a function that changes nothing. -/
theorem So_cv {f : FuncId} {args : Array Operand} {ats : Array TypeId} {R : AV → Prop} (hc : Cv P f (args.toList.map (evo env)) H (Cl R)) (k : ∀ v, R v → So r P ops m (i + 1) (putE env dst v) H (ad m es i clE) K) :
    So (⟨dst, .call { callee := .value (.func f), args := args, argTypes := ats }, ty, pos, after, none⟩ :: r) P ops m i env H es K := by
  refine So_call (fc := .fn (.func f) [] []) (R := Cl R) rfl ?_ (fun v' e h => ?_)
  · rw [Cc_func]; simpa using hc
  · obtain ⟨rfl, h⟩ := h
    exact ⟨fun _ => rfl, k v' h⟩
theorem So_fn {f : FuncId} {args : Array Operand} {ats : Array TypeId} {v : AV} (hc : Cv P f (args.toList.map (evo env)) H (Cl (· = v))) (k : So r P ops m (i + 1) (putE env dst v) H (ad m es i clE) K) :
    So (⟨dst, .call { callee := .value (.func f), args := args, argTypes := ats }, ty, pos, after, none⟩ :: r) P ops m i env H es K :=
  So_cv hc (fun _ h => h ▸ k)
theorem So_cl {f : Operand} {args : Array Operand} {ats : Array TypeId} {fc : Cell} {R : AV → Prop} (hc : Cc P fc (args.toList.map (evo env)) H (Cl R)) (hf : evo env f = .one fc) (k : ∀ v, R v → So r P ops m (i + 1) (putE env dst v) H (ad m es i clE) K) :
    So (⟨dst, .call { callee := .value f, args := args, argTypes := ats }, ty, pos, after, none⟩ :: r) P ops m i env H es K := by
  refine So_call (fc := fc) (R := Cl R) (by rw [hf]; rfl) hc (fun v' e h => ?_)
  obtain ⟨rfl, h⟩ := h
  exact ⟨fun _ => rfl, k v' h⟩

theorem So_cl1 {f : Operand} {args : Array Operand} {ats : Array TypeId} {fc : Cell} {v : AV} (hc : Cc P fc (args.toList.map (evo env)) H (Cl (· = v))) (k : So r P ops m (i + 1) (putE env dst v) H (ad m es i clE) K) (hf : evo env f = .one fc := by rfl) :
    So (⟨dst, .call { callee := .value f, args := args, argTypes := ats }, ty, pos, after, none⟩ :: r) P ops m i env H es K :=
  So_cl hc hf (fun _ h => h ▸ k)

variable {a b : Code} {c : Operand} {Q : AX → Env → AH → Prop}
theorem Ev_ct (k : Ev P a Q env H) (hc : evo env c = vbool true := by rfl) : Ev P (.cond c a b) Q env H := (Ev_cond hc).2 k
theorem Ev_cf (k : Ev P b Q env H) (hc : evo env c = vbool false := by rfl) : Ev P (.cond c a b) Q env H := (Ev_cond hc).2 k
theorem Ev_cs {t : Bool} (k1 : t = true → Ev P a Q env H) (k2 : t = false → Ev P b Q env H) (hc : evo env c = vbool t := by rfl) : Ev P (.cond c a b) Q env H := by
  cases t
  · exact Ev_cf (k2 rfl) hc
  · exact Ev_ct (k1 rfl) hc
theorem Ev_cd {p : Prop} [Decidable p] (k1 : p → Ev P a Q env H) (k2 : ¬p → Ev P b Q env H) (hc : evo env c = vbool (decide p) := by rfl) : Ev P (.cond c a b) Q env H := Ev_cs (fun h => k1 (of_decide_eq_true h)) (fun h => k2 (of_decide_eq_false h)) hc
theorem Ev_cn {p : Prop} [Decidable p] (k1 : ¬p → Ev P a Q env H) (k2 : p → Ev P b Q env H) (hc : evo env c = vbool (decide (¬p)) := by rfl) : Ev P (.cond c a b) Q env H := Ev_cd k1 (fun h => k2 (Decidable.not_not.1 h)) hc
theorem Ev_cm {t : Bool} (k1 : t = false → Ev P a Q env H) (k2 : t = true → Ev P b Q env H) (hc : evo env c = vbool (!t) := by rfl) : Ev P (.cond c a b) Q env H := Ev_cs (fun h => k1 (by simpa using h)) (fun h => k2 (by simpa using h)) hc
theorem form1 {e : Env} {a : Nat} {x : AV} (h1 : e a = x) : ∃ e0, e = upd e0 a x := ⟨e, by rw [upd_self h1]⟩
theorem form2 {e : Env} {a b : Nat} {x y : AV} (h1 : e a = x) (h2 : e b = y) : ∃ e0, e = upd (upd e0 a x) b y := ⟨e, by rw [upd_self h1, upd_self h2]⟩
theorem form3 {e : Env} {a b c : Nat} {x y z : AV} (h1 : e a = x) (h2 : e b = y) (h3 : e c = z) : ∃ e0, e = upd (upd (upd e0 a x) b y) c z := ⟨e, by rw [upd_self h1, upd_self h2, upd_self h3]⟩
theorem form4 {e : Env} {a b c d : Nat} {x y z w : AV} (h1 : e a = x) (h2 : e b = y) (h3 : e c = z) (h4 : e d = w) : ∃ e0, e = upd (upd (upd (upd e0 a x) b y) c z) d w := ⟨e, by rw [upd_self h1, upd_self h2, upd_self h3, upd_self h4]⟩
theorem form5 {e : Env} {a b c d g : Nat} {x y z w u : AV} (h1 : e a = x) (h2 : e b = y) (h3 : e c = z) (h4 : e d = w) (h5 : e g = u) : ∃ e0, e = upd (upd (upd (upd (upd e0 a x) b y) c z) d w) g u := ⟨e, by rw [upd_self h1, upd_self h2, upd_self h3, upd_self h4, upd_self h5]⟩
theorem form6 {e : Env} {a b c d g k : Nat} {x y z w u v : AV} (h1 : e a = x) (h2 : e b = y) (h3 : e c = z) (h4 : e d = w) (h5 : e g = u) (h6 : e k = v) : ∃ e0, e = upd (upd (upd (upd (upd (upd e0 a x) b y) c z) d w) g u) k v := ⟨e, by rw [upd_self h1, upd_self h2, upd_self h3, upd_self h4, upd_self h5, upd_self h6]⟩
theorem form7 {e : Env} {a b c d g k p : Nat} {x y z w u v q : AV} (h1 : e a = x) (h2 : e b = y) (h3 : e c = z) (h4 : e d = w) (h5 : e g = u) (h6 : e k = v) (h7 : e p = q) : ∃ e0, e = upd (upd (upd (upd (upd (upd (upd e0 a x) b y) c z) d w) g u) k v) p q := ⟨e, by rw [upd_self h1, upd_self h2, upd_self h3, upd_self h4, upd_self h5, upd_self h6, upd_self h7]⟩
theorem form8 {e : Env} {a b c d g k p s : Nat} {x y z w u v q t : AV} (h1 : e a = x) (h2 : e b = y) (h3 : e c = z) (h4 : e d = w) (h5 : e g = u) (h6 : e k = v) (h7 : e p = q) (h8 : e s = t) : ∃ e0, e = upd (upd (upd (upd (upd (upd (upd (upd e0 a x) b y) c z) d w) g u) k v) p q) s t := ⟨e, by rw [upd_self h1, upd_self h2, upd_self h3, upd_self h4, upd_self h5, upd_self h6, upd_self h7, upd_self h8]⟩
theorem take_any {α : Type} {p : α → Bool} {l : List α} {i : Nat} {x : α} (h : (l.take i).any p = false) (hx : l[i]? = some x) (hp : p x = false) : (l.take (i + 1)).any p = false := by
  rw [List.take_add_one, hx]
  simp [List.any_append, h, hp]
theorem any_true {α : Type} {p : α → Bool} {l : List α} {i : Nat} {x : α} (hx : l[i]? = some x) (hp : p x = true) : l.any p = true := by
  rw [List.any_eq_true]
  exact ⟨x, List.mem_of_getElem? hx, hp⟩
theorem Cc_fn {f : FuncId} {args : List AV} {H : AH} {R : AV → Eff → Prop} (h : Cv P f args H R) : Cc P (.fn (.func f) [] []) args H R := Cc_func.2 (by simpa using h)
/-- A loop that counts up to a bound. -/
theorem Ev_for (N : Nat) (J : Nat → Env → AH → Prop) (step : ∀ i e h, i ≤ N → J i e h → Ev P a (thenQ (fun e h => i < N ∧ J (i + 1) e h) Q) e h) (h0 : J 0 env H) : Ev P (.loop a) Q env H := by
  refine Ev.loop (fun m e h => ∃ i, m = N - i ∧ i ≤ N ∧ J i e h) ?_ ⟨0, rfl, Nat.zero_le _, h0⟩
  rintro m e h ⟨i, rfl, hi, hj⟩
  refine (step i e h hi hj).mono (fun x e h hq => ?_)
  cases x with
  | normal => exact ⟨N - (i + 1), by have := hq.1; omega, i + 1, rfl, hq.1, hq.2⟩
  | jump j => exact hq
/-- A loop that counts up from a number to a bound. -/
theorem Ev_from (N k : Nat) (hk : k ≤ N) (J : Nat → Env → AH → Prop) (step : ∀ i e h, k ≤ i → i ≤ N → J i e h → Ev P a (thenQ (fun e h => i < N ∧ J (i + 1) e h) Q) e h) (h0 : J k env H) : Ev P (.loop a) Q env H := by
  refine Ev.loop (fun m e h => ∃ i, m = N - i ∧ k ≤ i ∧ i ≤ N ∧ J i e h) ?_ ⟨k, rfl, Nat.le_refl _, hk, h0⟩
  rintro m e h ⟨i, rfl, hk, hi, hj⟩
  refine (step i e h hk hi hj).mono (fun x e h hq => ?_)
  cases x with
  | normal => exact ⟨N - (i + 1), by have := hq.1; omega, i + 1, rfl, by omega, hq.1, hq.2⟩
  | jump j => exact hq
theorem vint_s {i : Nat} : vint ((i : Int) + 1) = vint ((i + 1 : Nat) : Int) := rfl
theorem drop_at {α : Type} {l : List α} {i : Nat} {x : α} (h : l[i]? = some x) : l.drop i = x :: l.drop (i + 1) := by
  obtain ⟨h1, h2⟩ := List.getElem?_eq_some_iff.1 h
  rw [List.drop_eq_getElem_cons h1, h2]
theorem all_false {α : Type} {p : α → Bool} {l : List α} {i : Nat} {x : α} (hx : l[i]? = some x) (hp : p x = false) : l.all p = false := by
  rw [List.all_eq_false]
  exact ⟨x, List.mem_of_getElem? hx, by simp [hp]⟩
theorem take_all {α : Type} {p : α → Bool} {l : List α} {i : Nat} {x : α} (h : (l.take i).all p = true) (hx : l[i]? = some x) (hp : p x = true) : (l.take (i + 1)).all p = true := by
  rw [List.take_add_one, hx]
  simp [List.all_append, h, hp]
end
end Go.AM
