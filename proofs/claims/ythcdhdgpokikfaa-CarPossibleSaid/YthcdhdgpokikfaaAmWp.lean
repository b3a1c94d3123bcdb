/- Rules for walking code on the abstract machine: no fuel in sight. -/
import Derived.Test.YthcdhdgpokikfaaAmMono
import Derived.Laws.Sem
namespace Go.AM

section
variable {P : Program}

/-- The code runs to an end that is as asked. -/
structure Ev (P : Program) (c : Code) (Q : AX → Env → AH → Prop) (env : Env) (H : AH) : Prop where
  ex : ∃ n x env' H', aexec P n c env H = some (x, env', H') ∧ Q x env' H'
/-- The function returns as asked. -/
structure Cv (P : Program) (f : FuncId) (args : List AV) (H : AH) (R : AV → Eff → Prop) : Prop where
  ex : ∃ n r e, acall P n f args H = some (r, e) ∧ R r e
/-- The call of a closure. -/
structure Cc (P : Program) (fc : Cell) (args : List AV) (H : AH) (R : AV → Eff → Prop) : Prop where
  ex : ∃ n r e, callCell (aexec P n) (acall P n) fc args H = some (r, e) ∧ R r e

theorem Ev.mono {c : Code} {Q Q' : AX → Env → AH → Prop} {env : Env} {H : AH} (h : Ev P c Q env H) (k : ∀ x e h, Q x e h → Q' x e h) : Ev P c Q' env H :=
  let ⟨⟨n, x, e, h', h1, h2⟩⟩ := h; ⟨n, x, e, h', h1, k _ _ _ h2⟩
theorem Cv.mono {f : FuncId} {args : List AV} {H : AH} {R R' : AV → Eff → Prop} (h : Cv P f args H R) (k : ∀ r e, R r e → R' r e) : Cv P f args H R' :=
  let ⟨⟨n, r, e, h1, h2⟩⟩ := h; ⟨n, r, e, h1, k _ _ h2⟩
theorem Cc.mono {f : Cell} {args : List AV} {H : AH} {R R' : AV → Eff → Prop} (h : Cc P f args H R) (k : ∀ r e, R r e → R' r e) : Cc P f args H R' :=
  let ⟨⟨n, r, e, h1, h2⟩⟩ := h; ⟨n, r, e, h1, k _ _ h2⟩

theorem Cc_func {f : FuncId} {p q : List Cell} {args : List AV} {H : AH} {R : AV → Eff → Prop} : Cc P (.fn (.func f) p q) args H R ↔ Cv P f (p.map .one ++ args ++ q.map .one) H R := ⟨fun h => ⟨h.ex⟩, fun h => ⟨h.ex⟩⟩

theorem Ev_skip {Q : AX → Env → AH → Prop} {env : Env} {H : AH} : Ev P .skip Q env H ↔ Q .normal env H :=
  ⟨fun ⟨⟨n, x, e, h, h1, h2⟩⟩ => by
    cases n with
    | zero => simp [aexec] at h1
    | succ n => simp only [aexec] at h1; injection h1 with h1; injection h1 with g1 g2; injection g2 with g2 g3; subst g1 g2 g3; exact h2,
   fun h => ⟨1, _, _, _, rfl, h⟩⟩
theorem Ev_label {l : Nat} {Q : AX → Env → AH → Prop} {env : Env} {H : AH} : Ev P (.label l) Q env H ↔ Q .normal env H :=
  ⟨fun ⟨⟨n, x, e, h, h1, h2⟩⟩ => by
    cases n with
    | zero => simp [aexec] at h1
    | succ n => simp only [aexec] at h1; injection h1 with h1; injection h1 with g1 g2; injection g2 with g2 g3; subst g1 g2 g3; exact h2,
   fun h => ⟨1, _, _, _, rfl, h⟩⟩
theorem Ev_ret {Q : AX → Env → AH → Prop} {env : Env} {H : AH} : Ev P .ret Q env H ↔ Q (.jump .ret) env H :=
  ⟨fun ⟨⟨n, x, e, h, h1, h2⟩⟩ => by
    cases n with
    | zero => simp [aexec] at h1
    | succ n => simp only [aexec] at h1; injection h1 with h1; injection h1 with g1 g2; injection g2 with g2 g3; subst g1 g2 g3; exact h2,
   fun h => ⟨1, _, _, _, rfl, h⟩⟩
theorem Ev_exit {i : Nat} {Q : AX → Env → AH → Prop} {env : Env} {H : AH} : Ev P (.exit i) Q env H ↔ Q (.jump (.exit i)) env H :=
  ⟨fun ⟨⟨n, x, e, h, h1, h2⟩⟩ => by
    cases n with
    | zero => simp [aexec] at h1
    | succ n => simp only [aexec] at h1; injection h1 with h1; injection h1 with g1 g2; injection g2 with g2 g3; subst g1 g2 g3; exact h2,
   fun h => ⟨1, _, _, _, rfl, h⟩⟩

/-- What is asked behind the first of two. -/
def thenQ (K : Env → AH → Prop) (Q : AX → Env → AH → Prop) : AX → Env → AH → Prop
  | .normal, e, h => K e h
  | .jump j, e, h => Q (.jump j) e h
theorem Ev_seq {a b : Code} {Q : AX → Env → AH → Prop} {env : Env} {H : AH} : Ev P (.seq a b) Q env H ↔ Ev P a (thenQ (Ev P b Q) Q) env H := by
  constructor
  · rintro ⟨n, x, e, h, h1, h2⟩
    cases n with
    | zero => simp [aexec] at h1
    | succ n =>
      rw [aexec] at h1
      split at h1
      · rename_i e1 H1 ha
        exact ⟨n, _, _, _, ha, n, _, _, _, h1, h2⟩
      · rename_i hne
        cases x with
        | normal => exact absurd h1 (hne _ _)
        | jump j => exact ⟨n, _, _, _, h1, h2⟩
  · rintro ⟨n, x, e, h, h1, h2⟩
    cases x with
    | normal =>
      obtain ⟨m, x, e2, h', h3, h4⟩ := h2
      refine ⟨max n m + 1, x, e2, h', ?_, h4⟩
      rw [aexec, aexec_mono (Nat.le_max_left n m) h1]
      exact aexec_mono (Nat.le_max_right n m) h3
    | jump j =>
      refine ⟨n + 1, _, _, _, ?_, h2⟩
      rw [aexec, h1]
theorem Ev_cond {c : Operand} {a b : Code} {Q : AX → Env → AH → Prop} {env : Env} {H : AH} {t : Bool} (hc : evo env c = .one (.sc (.bool t))) : Ev P (.cond c a b) Q env H ↔ Ev P (if t then a else b) Q env H := by
  constructor
  · rintro ⟨n, x, e, h, h1, h2⟩
    cases n with
    | zero => simp [aexec] at h1
    | succ n => rw [aexec, hc] at h1; exact ⟨n, _, _, _, h1, h2⟩
  · rintro ⟨n, x, e, h, h1, h2⟩
    exact ⟨n + 1, _, _, _, by rw [aexec, hc]; exact h1, h2⟩
def blockQ (id : Nat) (Q : AX → Env → AH → Prop) : AX → Env → AH → Prop
  | .jump (.exit i), e, h => if i = id then Q .normal e h else Q (.jump (.exit i)) e h
  | x, e, h => Q x e h
theorem Ev_block {id : Nat} {b : Code} {Q : AX → Env → AH → Prop} {env : Env} {H : AH} : Ev P (.block id b) Q env H ↔ Ev P b (blockQ id Q) env H := by
  constructor
  · rintro ⟨n, x, e, h, h1, h2⟩
    cases n with
    | zero => simp [aexec] at h1
    | succ n =>
      rw [aexec] at h1
      split at h1
      · rename_i i e1 H1 ha
        refine ⟨n, _, _, _, ha, ?_⟩
        simp only [blockQ]
        by_cases hi : i = id
        · rw [if_pos hi] at h1 ⊢
          injection h1 with h1; injection h1 with g1 g2; injection g2 with g2 g3; subst g1 g2 g3; exact h2
        · rw [if_neg hi] at h1 ⊢
          injection h1 with h1; injection h1 with g1 g2; injection g2 with g2 g3; subst g1 g2 g3; exact h2
      · rename_i hne
        refine ⟨n, _, _, _, h1, ?_⟩
        unfold blockQ
        split
        · exact absurd h1 (hne _ _ _)
        · exact h2
  · rintro ⟨n, x, e, h, h1, h2⟩
    cases x with
    | normal => exact ⟨n + 1, _, _, _, by rw [aexec, h1], h2⟩
    | jump j =>
      cases j with
      | exit i =>
        simp only [blockQ] at h2
        by_cases hi : i = id
        · rw [if_pos hi] at h2; exact ⟨n + 1, _, _, _, by rw [aexec, h1]; simp only [if_pos hi], h2⟩
        · rw [if_neg hi] at h2; exact ⟨n + 1, _, _, _, by rw [aexec, h1]; simp only [if_neg hi], h2⟩
      | ret => exact ⟨n + 1, _, _, _, by rw [aexec, h1], h2⟩
      | goto l => exact ⟨n + 1, _, _, _, by rw [aexec, h1], h2⟩
theorem Ev_loop {b : Code} {Q : AX → Env → AH → Prop} {env : Env} {H : AH} : Ev P (.loop b) Q env H ↔ Ev P b (thenQ (Ev P (.loop b) Q) Q) env H := by
  constructor
  · rintro ⟨n, x, e, h, h1, h2⟩
    cases n with
    | zero => simp [aexec] at h1
    | succ n =>
      rw [aexec] at h1
      split at h1
      · rename_i e1 H1 ha
        exact ⟨n, _, _, _, ha, n, _, _, _, h1, h2⟩
      · rename_i hne
        cases x with
        | normal => exact absurd h1 (hne _ _)
        | jump j => exact ⟨n, _, _, _, h1, h2⟩
  · rintro ⟨n, x, e, h, h1, h2⟩
    cases x with
    | normal =>
      obtain ⟨m, x, e2, h', h3, h4⟩ := h2
      refine ⟨max n m + 1, x, e2, h', ?_, h4⟩
      rw [aexec, aexec_mono (Nat.le_max_left n m) h1]
      exact aexec_mono (Nat.le_max_right n m) h3
    | jump j =>
      refine ⟨n + 1, _, _, _, ?_, h2⟩
      rw [aexec, h1]
def scopeQ (Q : AX → Env → AH → Prop) : AX → Env → AH → Prop
  | .jump (.goto _), _, _ => False
  | x, e, h => Q x e h
theorem Ev.scope {b : Code} {Q : AX → Env → AH → Prop} {env : Env} {H : AH} (h : Ev P b (scopeQ Q) env H) : Ev P (.scope b) Q env H := by
  obtain ⟨n, x, e, h', h1, h2⟩ := h
  refine ⟨n + 1, x, e, h', ?_, ?_⟩
  · rw [aexec, h1]
    cases x with
    | normal => rfl
    | jump j => cases j with | goto l => exact h2.elim | _ => rfl
  · cases x with
    | normal => exact h2
    | jump j => cases j with | goto l => exact h2.elim | _ => exact h2

/-- A loop with a measure. -/
theorem Ev.loop {b : Code} {Q : AX → Env → AH → Prop} (I : Nat → Env → AH → Prop) (step : ∀ m e h, I m e h → Ev P b (thenQ (fun e h => ∃ m', m' < m ∧ I m' e h) Q) e h) : ∀ {m : Nat} {env : Env} {H : AH}, I m env H → Ev P (.loop b) Q env H := by
  intro m
  induction m using Nat.strongRecOn with
  | _ m ih =>
    intro env H hI
    rw [Ev_loop]
    refine (step m env H hI).mono (fun x e h hq => ?_)
    cases x with
    | normal => obtain ⟨m', h1, h2⟩ := hq; exact ih m' h1 h2
    | jump j => exact hq

/-- A function's contract from its body. -/
theorem Cv.of {f : FuncId} {fn : Func} {c : Code} {args : List AV} {H : AH} {R : AV → Eff → Prop} (hf : P.funcs[f]? = some fn) (hb : fn.body = some c) (hn : (fn.name == "runtime.NumGoroutine") = false) (ha : shutFn P fn args = false)
    (h : Ev P c (fun x e h => (x = .normal ∨ x = .jump .ret) ∧ ∃ vs, resultsA P fn e h.bl = some vs ∧ R (finish (fn.origin == "slices.Clone") H h (single vs)).1 (finish (fn.origin == "slices.Clone") H h (single vs)).2) (fun t => args.getD t .und) ⟨H.nx, H.bl, H.nx⟩) :
    Cv P f args H R := by
  obtain ⟨n, x, e, h', h1, h2, vs, h3, h4⟩ := h
  refine ⟨n + 1, _, _, ?_, h4⟩
  rw [acall, hf]
  simp only [hb, hn, h1, ha]
  rcases h2 with rfl | rfl <;> simp [h3]
/-- A function of no arguments that answers a number or a Bool: it can be run. -/
theorem Cv.shut {f : FuncId} {fn : Func} {c : Code} {v : Value} {n : Nat} (hf : P.funcs[f]? = some fn) (hb : fn.body = some c) (ha : shutFn P fn [] = true) (h : acall P n f [] HZ = some (.one (.sc v), .clean)) (H : AH) :
    Cv P f [] H (fun r e => e = .clean ∧ r = .one (.sc v)) := by
  refine ⟨n, _, _, ?_, rfl, rfl⟩
  cases n with
  | zero => simp [acall] at h
  | succ n =>
    rw [acall, hf] at h ⊢
    simp only [hb, ha, if_true] at h ⊢
    exact h

end
end Go.AM
