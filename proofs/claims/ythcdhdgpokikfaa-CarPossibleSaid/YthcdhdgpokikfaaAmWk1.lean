/- Regions, operation by operation. -/
import Derived.Test.YthcdhdgpokikfaaAmWp
namespace Go.AM

inductive Md where
  | pl
  | st
  | tr
  deriving DecidableEq
/-- What is noted of an operation where the order is drawn and something is written. -/
def ad (m : Md) (es : List (Nat × Evt)) (i : Nat) (e : Evt) : List (Nat × Evt) := match m with
  | .tr => if e.touch then es ++ [(i, e)] else es
  | _ => es

section
variable {P : Program}
def So0 (P : Program) (ops : Array Oper) (m : Md) : Nat → List Oper → Env → AH → List (Nat × Evt) → (Env → AH → List (Nat × Evt) → Prop) → Prop
  | _, [], env, H, es, K => K env H es
  | i, o :: r, env, H, es, K => match wantedA ops env o with
    | some false => So0 P ops m (i + 1) r (putE env o.dst .und) H es K
    | some true => match o.op with
      | .call { callee := .value f, args, .. } => ∃ fc, (evo env f).cell = some fc ∧ Cc P fc (args.toList.map (evo env)) H (fun v e => (m = .st → e = .clean) ∧ So0 P ops m (i + 1) r (putE env o.dst v) (e.app H) (ad m es i (evt env o H (.call e))) K)
      | _ => ∃ v d, aop P H.nx H.bl env o = some (v, d) ∧ (m = .st → d = none) ∧ So0 P ops m (i + 1) r (putE env o.dst v) (H.app d) (ad m es i (evt env o H (.op d))) K
    | none => False

structure So (l : List Oper) (P : Program) (ops : Array Oper) (m : Md) (i : Nat) (env : Env) (H : AH) (es : List (Nat × Evt)) (K : Env → AH → List (Nat × Evt) → Prop) : Prop where
  un : So0 P ops m i l env H es K

theorem callCell_le {n m : Nat} (h : n ≤ m) : CLe (callCell (aexec P n) (acall P n)) (callCell (aexec P m) (acall P m)) :=
  callCell_mono (fun _ _ _ _ hr => aexec_mono h hr) (fun _ _ _ _ hr => acall_mono h hr)

theorem ordOk_still {bits : Array Nat} : ∀ {es : List (Nat × Evt)}, (∀ e ∈ es, e.2.wr = none ∧ e.2.all = false) → ordOk bits es = true := by
  intro es
  induction es with
  | nil => intro _; rfl
  | cons e es ih =>
    intro h
    simp only [ordOk, Bool.and_eq_true, List.all_eq_true, Bool.or_eq_true, Bool.not_eq_true']
    refine ⟨fun d hd => .inl ?_, ih (fun x hx => h x (by simp [hx]))⟩
    obtain ⟨h1, h2⟩ := h e (by simp)
    obtain ⟨h3, h4⟩ := h d (by simp [hd])
    simp [Evt.conf, h1, h2, h3, h4]
theorem untouched {e : Evt} (h : e.touch = false) : e.reads = [] ∧ e.wr = none ∧ e.call = false ∧ e.all = false := by
  simp only [Evt.touch, Bool.or_eq_false_iff, Bool.not_eq_false', List.isEmpty_iff, Option.isSome_eq_false_iff, Option.isNone_iff_eq_none] at h
  exact ⟨h.1.1.1, h.1.1.2, h.1.2, h.2⟩
theorem conf_l {e d : Evt} (h : e.touch = false) : e.conf d = false := by
  have h0 := h
  obtain ⟨h1, h2, h3, h4⟩ := untouched h
  unfold Evt.conf
  rw [h0, h1, h2, h3, h4]
  cases d.wr <;> simp
theorem conf_r {e d : Evt} (h : d.touch = false) : e.conf d = false := by
  have h0 := h
  obtain ⟨h1, h2, h3, h4⟩ := untouched h
  unfold Evt.conf
  rw [h0, h1, h2, h3, h4]
  cases e.wr <;> simp
theorem ordOk_filter {bits : Array Nat} : ∀ {es : List (Nat × Evt)}, ordOk bits (es.filter fun e => e.2.touch) = true → ordOk bits es = true := by
  intro es
  induction es with
  | nil => intro _; rfl
  | cons e es ih =>
    intro h
    cases ht : e.2.touch with
    | false =>
      rw [List.filter_cons_of_neg (by simp [ht])] at h
      simp only [ordOk, Bool.and_eq_true, List.all_eq_true, Bool.or_eq_true, Bool.not_eq_true']
      exact ⟨fun d _ => .inl (conf_l ht), ih h⟩
    | true =>
      rw [List.filter_cons_of_pos (by simp [ht])] at h
      simp only [ordOk, Bool.and_eq_true, List.all_eq_true, Bool.or_eq_true, Bool.not_eq_true'] at h ⊢
      refine ⟨fun d hd => ?_, ih h.2⟩
      cases hd' : d.2.touch with
      | false => exact .inl (conf_r hd')
      | true => exact h.1 d (List.mem_filter.2 ⟨hd, hd'⟩)

def adl (m : Md) (es es' : List (Nat × Evt)) : List (Nat × Evt) := match m with
  | .tr => es ++ es'.filter fun e => e.2.touch
  | _ => es
theorem adl_nil {m : Md} {es : List (Nat × Evt)} : adl m es [] = es := by cases m <;> simp [adl]
theorem adl_cons {m : Md} {es es' : List (Nat × Evt)} {i : Nat} {e : Evt} : adl m (ad m es i e) es' = adl m es ((i, e) :: es') := by
  cases m <;> simp only [adl, ad]
  cases ht : e.touch <;> simp [ht]

theorem So0.run {ops : Array Oper} {m : Md} {K : Env → AH → List (Nat × Evt) → Prop} : ∀ {l : List Oper} {i : Nat} {env : Env} {H : AH} {es : List (Nat × Evt)}, So0 P ops m i l env H es K → ∃ n env' H' es', aopsD P (callCell (aexec P n) (acall P n)) ops i l env H = some (env', H', es') ∧
    aops P (callCell (aexec P n) (acall P n)) ops l env H = some (env', H') ∧ (m = .st → ∀ e ∈ es', e.2.wr = none ∧ e.2.all = false) ∧ K env' H' (adl m es es') := by
  intro l
  induction l with
  | nil => intro i env H es h; exact ⟨0, env, H, [], rfl, rfl, by simp, by rw [adl_nil]; exact h⟩
  | cons o l ih =>
    intro i env H es h
    simp only [So0] at h
    split at h
    · rename_i hw
      obtain ⟨n, e, h', es', h1, h2, h3, h4⟩ := ih h
      refine ⟨n, e, h', es', ?_, ?_, h3, h4⟩
      · simp only [aopsD, stepD, hw, h1]
      · simp only [aops, stepD, hw, h2]
    · rename_i hw
      split at h
      · rename_i f args ats hop
        obtain ⟨fc, hfc, n, r, e, h1, hcl, h2⟩ := h
        obtain ⟨k, e2, h', es', h3, h3', h4, h5⟩ := ih h2
        have hs : step1 P (callCell (aexec P (max n k)) (acall P (max n k))) env H o = some (r, .call e) := by
          unfold step1
          rw [hop]
          simp only [hfc]
          rw [callCell_le (Nat.le_max_left n k) _ _ _ _ h1]
          rfl
        refine ⟨max n k, e2, h', (i, evt env o H (.call e)) :: es', ?_, ?_, ?_, by rw [← adl_cons]; exact h5⟩
        · have h3 := aopsD_mono (callCell_le (P := P) (Nat.le_max_right n k)) h3
          simp only [aopsD, stepD, hw, hs, Del.app, h3]
        · have h3' := aops_mono (callCell_le (P := P) (Nat.le_max_right n k)) h3'
          simp only [aops, stepD, hw, hs, Del.app, h3']
        · intro hd x hx
          rcases List.mem_cons.1 hx with rfl | hx
          · have := hcl hd; subst this; exact ⟨rfl, rfl⟩
          · exact h4 hd x hx
      · rename_i hne
        obtain ⟨v, d, ha, hdn, h⟩ := h
        obtain ⟨k, e2, h', es', h3, h3', h4, h5⟩ := ih h
        have hs : step1 P (callCell (aexec P k) (acall P k)) env H o = some (v, .op d) := by
          unfold step1
          split
          · rename_i f args ats hop
            exact absurd hop (hne _ _ _)
          · rw [ha]; rfl
        refine ⟨k, e2, h', (i, evt env o H (.op d)) :: es', ?_, ?_, ?_, by rw [← adl_cons]; exact h5⟩
        · simp only [aopsD, stepD, hw, hs, Del.app, h3]
        · simp only [aops, stepD, hw, hs, Del.app, h3']
        · intro hd x hx
          rcases List.mem_cons.1 hx with rfl | hx
          · have := hdn hd; subst this; exact ⟨rfl, rfl⟩
          · exact h4 hd x hx
    · exact h.elim

/-- Nothing in the region writes but a call. -/
def stillOps (ops : Array Oper) : Bool := ops.toList.all fun o => match o.op with
  | .alloc _ | .box .. | .store .. | .buildSlice .. | .makeSlice .. | .makeMap .. | .call { callee := .builtin .append, .. } => false
  | _ => true
theorem Ev_rp {id : Nat} {ops : Array Oper} {Q : AX → Env → AH → Prop} {env : Env} {H : AH} (h : So ops.toList P ops .pl 0 env H [] (fun e h _ => Q .normal e h)) : Ev P (.region id ops false) Q env H := by
  obtain ⟨n, e, h', es, h1, h2, h3, h4⟩ := h.un.run
  refine ⟨n + 1, .normal, e, h', ?_, h4⟩
  rw [aexec]
  simp only [Bool.false_eq_true, if_false, h2]
  rfl
theorem Ev_rs {id : Nat} {ops : Array Oper} {Q : AX → Env → AH → Prop} {env : Env} {H : AH} (h : So ops.toList P ops .st 0 env H [] (fun e h _ => Q .normal e h)) (_ : stillOps ops = true := by rfl) : Ev P (.region id ops true) Q env H := by
  obtain ⟨n, e, h', es, h1, h2, h3, h4⟩ := h.un.run
  refine ⟨n + 1, .normal, e, h', ?_, h4⟩
  rw [aexec]
  simp only [if_true, h1, ordOk_still (h3 rfl)]
theorem Ev_rt {id : Nat} {ops : Array Oper} {Q : AX → Env → AH → Prop} {env : Env} {H : AH} (h : So ops.toList P ops .tr 0 env H [] (fun e h es => ordOk (Region.before ops) es = true ∧ Q .normal e h)) : Ev P (.region id ops true) Q env H := by
  obtain ⟨n, e, h', es, h1, h2, h3, h4, h5⟩ := h.un.run
  refine ⟨n + 1, .normal, e, h', ?_, h5⟩
  rw [aexec]
  simp only [adl, List.nil_append] at h4
  simp only [if_true, h1, ordOk_filter h4]
end
end Go.AM
