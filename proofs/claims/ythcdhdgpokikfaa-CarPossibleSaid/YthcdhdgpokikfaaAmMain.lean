/- The abstract machine is sound. -/
import Derived.Test.YthcdhdgpokikfaaAmDraw7
namespace Go.AM

section
variable {P : Program}

def LoopOk (P : Program) (n : Nat) : Prop := ∀ (F : Fence), Fine F → ∀ (m : Nat) (b : Code) (env : Env) (H : AH) (x : AX) (env' : Env) (H' : AH), aexec P n (.loop b) env H = some (x, env', H') →
  ∀ (V : View) (a : Act) (base : Nat), Sit V H env F.round base a → codeOk a.tmps.size b = true → base ≤ V.w.heap.size →
  ∀ (Q : Exit → Act → World → Prop), (∀ e a' w', XPost V H x env' H' F.round base a.tmps.size e a' w' → Q e a' w') → Code.roundsIn F m P b Q n a V.w

theorem XPost.trans {V V1 : View} {H H1 : AH} {x : AX} {env' : Env} {H' : AH} {ro : Option Nat} {base N N1 : Nat} {e : Exit} {a' : Act} {w' : World} (T : Step V H V1 H1) (hN : N1 = N) (h : XPost V1 H1 x env' H' ro base N1 e a' w') : XPost V H x env' H' ro base N e a' w' := by
  obtain ⟨h1, V', h2, h3, h4, h5⟩ := h
  exact ⟨h1, V', h2, T.trans h3, h4, h5.trans hN⟩

/-- Nothing is owned. -/
def VZ (W : World) : View := ⟨W, fun _ => 0, fun _ => .none, fun _ => False⟩
theorem own_VZ (W : World) (b : Nat) : ¬ own (VZ W) b := by
  rintro (h | ⟨_, h, _⟩)
  · exact h
  · exact h
theorem sit_VZ (W : World) : SitH (VZ W) HZ := ⟨rfl, fun _ _ => rfl, ⟨fun _ => trivial, fun _ _ h => h.elim, fun _ h => h.elim⟩⟩
theorem post_shut {V : View} {H : AH} {v : Value} {ed : Ending} {w' : World} (S : SitH V H) (h : CallPost (VZ V.w) HZ (.one (.sc v)) .clean ed w') : CallPost V H (.one (.sc v)) .clean ed w' := by
  cases ed with
  | returned u =>
    obtain ⟨V', rfl, hst, _, hv⟩ := h
    have E := hst.ext
    have same : ∀ b, b < V.w.heap.size → V'.w.heap[b]? = V.w.heap[b]? := fun b hb => (E.keep b hb (own_VZ V.w b)).1
    have E2 : Ext V ⟨V'.w, V.mu, V.bl, V.hid⟩ := by
      refine ⟨⟨E.size, fun b hb hn => ⟨same b hb, hn⟩, fun h => Turn.of_same rfl rfl (fun hl => same _ (S.hr.lt hl))⟩, E.io, fun b hb => ⟨hb, same b (S.hr.hid b hb).1⟩⟩
    refine ⟨⟨V'.w, V.mu, V.bl, V.hid⟩, rfl, ⟨E2, Nat.le_refl _, Nat.le_refl _, fun _ _ _ => ⟨rfl, rfl⟩⟩, ⟨S.bl, S.nx, ⟨fun h => ?_, S.hr.inj, fun b hb => ⟨?_, (S.hr.hid b hb).2⟩⟩⟩, ?_⟩
    · have hh := S.hr.holds h
      cases hb : V.bl h with
      | none => trivial
      | dead => trivial
      | _ => rw [hb] at hh; exact hh.mono E2 (same _ (S.hr.lt (by rw [hb]; trivial)))
    · exact Nat.lt_of_lt_of_le (S.hr.hid b hb).1 E.size
    · cases hv with
      | one hc =>
        cases hc with
        | ro hc =>
          cases hc with
          | sc hp => exact .one (.ro (.sc hp))
  | panicked _ => exact h
  | outgrown => exact h

theorem main (hp : progOk P = true) (hmix : P.follows .mixedOrders = true) : ∀ n, ExecOk P (aexec P n) ∧ ACallOk P (acall P n) ∧ LoopOk P n := by
  intro n
  induction n with
  | zero =>
    refine ⟨fun F hF m c env H x env' H' h => by simp [aexec] at h, fun F hF m f args H r e h => by simp [acall] at h, fun F hF m b env H x env' H' h => by simp [aexec] at h⟩
  | succ n ih =>
    obtain ⟨ihE, ihC, ihL⟩ := ih
    have hcall := callCell_ok ihE ihC
    have hloop : LoopOk P (n + 1) := by
      intro F hF m b env H x env' H' h V a base S hc hb Q k
      rw [aexec] at h
      rw [roundsIn_succ]
      split at h
      · rename_i env1 H1 hb1
        refine wpIn_mono (ihE F hF m b _ _ _ _ _ hb1 V a base S hc hb) (fun e a1 w1 hq => ?_)
        obtain ⟨rfl, V1, rfl, T1, S1, hs1⟩ := hq
        exact ihL F hF m b _ _ _ _ _ h V1 a1 base S1 (by rw [hs1]; exact hc) (Nat.le_trans hb T1.ext.size) Q (fun e a' w' hq => k e a' w' (hq.trans T1 hs1))
      · rename_i hne
        refine wpIn_mono (ihE F hF m b _ _ _ _ _ h V a base S hc hb) (fun e a1 w1 hq => ?_)
        cases x with
        | normal => exact absurd h (hne _ _)
        | jump j =>
          have := hq.1
          subst this
          cases j <;> exact k _ _ _ hq
    refine ⟨?_, ?_, hloop⟩
    · intro F hF m c env H x env' H' h V a base S hc hb
      cases c with
      | skip =>
        simp only [aexec] at h
        injection h with h; injection h with h1 h2; injection h2 with h2 h3; subst h1 h2 h3
        exact wpIn_skip ⟨rfl, V, rfl, Step.refl _ _, S, rfl⟩
      | label l =>
        simp only [aexec] at h
        injection h with h; injection h with h1 h2; injection h2 with h2 h3; subst h1 h2 h3
        exact wpIn_label ⟨rfl, V, rfl, Step.refl _ _, S, rfl⟩
      | exit id =>
        simp only [aexec] at h
        injection h with h; injection h with h1 h2; injection h2 with h2 h3; subst h1 h2 h3
        exact wpIn_exit ⟨rfl, V, rfl, Step.refl _ _, S, rfl⟩
      | goto l =>
        simp only [aexec] at h
        injection h with h; injection h with h1 h2; injection h2 with h2 h3; subst h1 h2 h3
        exact wpIn_goto ⟨rfl, V, rfl, Step.refl _ _, S, rfl⟩
      | ret =>
        simp only [aexec] at h
        injection h with h; injection h with h1 h2; injection h2 with h2 h3; subst h1 h2 h3
        exact wpIn_ret ⟨rfl, V, rfl, Step.refl _ _, S, rfl⟩
      | refuse s => simp [aexec] at h
      | region id ops draw =>
        simp only [codeOk, Bool.and_eq_true, List.all_eq_true] at hc
        rw [aexec] at h
        cases draw with
        | false =>
          simp only [Bool.false_eq_true, if_false] at h
          obtain ⟨⟨env1, H1⟩, hr, he⟩ := Option.map_eq_some_iff.1 h
          injection he with h1 h2; injection h2 with h2 h3
          subst h1 h2 h3
          exact region_wp hcall hF S hc.1 hr (fun V' a' h1 h2 h3 => ⟨rfl, V', rfl, h1, h2, h3⟩)
        | true =>
          simp only [if_true] at h
          split at h
          · rename_i env1 H1 es hr
            split at h
            · rename_i hord
              injection h with h; injection h with h1 h2; injection h2 with h2 h3
              subst h1 h2 h3
              have hc2 := hc.2
              simp only [Bool.not_true, Bool.false_or, Bool.and_eq_true] at hc2
              exact region_draw hmix hcall hF S hc.1 hc2.1 hc2.2 hr hord (fun V' a' h1 h2 h3 => ⟨rfl, V', rfl, h1, h2, h3⟩)
            · cases h
          · cases h
      | seq p q =>
        simp only [codeOk, Bool.and_eq_true] at hc
        rw [aexec] at h
        split at h
        · rename_i env1 H1 h1
          refine wpIn_seq (wpIn_mono (ihE F hF m p _ _ _ _ _ h1 V a base S hc.1 hb) (fun e a1 w1 hq => ?_))
          obtain ⟨rfl, V1, rfl, T1, S1, hs1⟩ := hq
          exact wpIn_mono (ihE F hF m q _ _ _ _ _ h V1 a1 base S1 (by rw [hs1]; exact hc.2) (Nat.le_trans hb T1.ext.size)) (fun e a' w' hq => hq.trans T1 hs1)
        · rename_i hne
          refine wpIn_seq (wpIn_mono (ihE F hF m p _ _ _ _ _ h V a base S hc.1 hb) (fun e a1 w1 hq => ?_))
          cases x with
          | normal => exact absurd h (hne _ _)
          | jump j =>
            have := hq.1
            subst this
            cases j <;> exact hq
      | cond cnd p q =>
        simp only [codeOk, Bool.and_eq_true] at hc
        rw [aexec] at h
        split at h
        · rename_i t ht
          have hv := evo_sound S.er cnd
          rw [ht] at hv
          have hv : a.eval cnd = .bool t := toV_sound hv _ rfl
          refine wpIn_cond hv (ihE F hF m _ _ _ _ _ _ h V a base S ?_ hb)
          cases t
          · exact hc.2
          · exact hc.1
        · cases h
      | block id b =>
        simp only [codeOk] at hc
        rw [aexec] at h
        split at h
        · rename_i i env1 H1 h1
          refine wpIn_block (wpIn_mono (ihE F hF m b _ _ _ _ _ h1 V a base S hc hb) (fun e a1 w1 hq => ?_))
          obtain ⟨rfl, hq⟩ := hq
          by_cases hid : i = id
          · rw [if_pos hid] at h
            injection h with h; injection h with h1 h2; injection h2 with h2 h3; subst h1 h2 h3
            simp only [AX.exit, Exit.inBlock, if_pos hid]
            exact ⟨rfl, hq⟩
          · rw [if_neg hid] at h
            injection h with h; injection h with h1 h2; injection h2 with h2 h3; subst h1 h2 h3
            simp only [AX.exit, Exit.inBlock, if_neg hid]
            exact ⟨rfl, hq⟩
        · rename_i hne
          refine wpIn_block (wpIn_mono (ihE F hF m b _ _ _ _ _ h V a base S hc hb) (fun e a1 w1 hq => ?_))
          have := hq.1
          subst this
          cases x with
          | normal => exact hq
          | jump j =>
            cases j with
            | exit i => exact absurd h (hne _ _ _)
            | ret => exact hq
            | goto l => exact hq
      | loop b =>
        simp only [codeOk] at hc
        exact wpIn_loop_rounds (n + 1) (hloop F hF m b _ _ _ _ _ h V a base S hc hb _ (fun _ _ _ hq => hq))
      | scope b =>
        simp only [codeOk] at hc
        rw [aexec] at h
        split at h
        · cases h
        · rename_i hne
          refine wpIn_scope (wpIn_mono (ihE F hF m b _ _ _ _ _ h V a base S hc hb) (fun e a1 w1 hq => ⟨fun l hl => ?_, hq⟩))
          have := hq.1
          rw [hl] at this
          cases x with
          | normal => cases this
          | jump j =>
            cases j with
            | goto l' => exact absurd h (hne _ _ _)
            | ret => cases this
            | exit _ => cases this
      | rangeFunc g ps as bd =>
        rw [aexec] at h
        split at h
        · rename_i f first caps hg
          simp only at h
          split at h
          · rename_i r0 e hcl
            split at h
            · rename_i r hbl
              split at h
              · cases h
              · rename_i hov
                have hov : r.over = false := by simpa using hov
                split at h
                · rename_i hpn hrd
                  injection h with h; injection h with h1 h2; injection h2 with h2 h3; subst h1 h2 h3
                  exact rangeFunc_wp ihC hF S hb hc hg hcl hbl hov (.inl ⟨hpn, hrd, rfl⟩)
                · rename_i j hpn hrd
                  injection h with h; injection h with h1 h2; injection h2 with h2 h3; subst h1 h2 h3
                  exact rangeFunc_wp ihC hF S hb hc hg hcl hbl hov (.inr ⟨j, hpn, hrd, rfl⟩)
                · cases h
            · cases h
          · cases h
        · cases h
    · intro F hF m f args H r e h V vals S A
      rw [acall] at h
      split at h
      · rename_i fn hf
        split at h
        · rename_i c hb
          split at h
          · cases h
          · rename_i hnm
            have hnm : (fn.name == "runtime.NumGoroutine") = false := by simpa using hnm
            refine ⟨fun w => run_callFunc hf hb hnm vals w, ?_⟩
            split at h
            · have fin : ∀ {x : AX} {env1 : Env} {H1 : AH}, aexec P n c (fun t => args.getD t .und) HZ = some (x, env1, H1) → (x = .normal ∨ x = .jump .ret) → ((resultsA P fn env1 H1.bl).bind fun vs => closedR (finish (fn.origin == "slices.Clone") HZ H1 (single vs))) = some (r, e) →
                  CallsIn F m P f vals V.w (CallPost V H r e) := by
                rename_i hsh
                intro x env1 H1 hex hx hr
                obtain ⟨xs, hres, hc⟩ := Option.bind_eq_some_iff.1 hr
                have hargs : args = [] := by
                  unfold shutFn at hsh
                  simp only [Bool.and_eq_true, List.isEmpty_iff] at hsh
                  exact hsh.1
                subst hargs
                generalize hfin : finish (fn.origin == "slices.Clone") HZ H1 (single xs) = q at hc
                obtain ⟨r1, e1⟩ := q
                have hcl : ∃ v, r1 = .one (.sc v) ∧ e1 = .clean ∧ r = .one (.sc v) ∧ e = .clean := by
                  unfold closedR at hc
                  split at hc
                  · rename_i v heq
                    injection hc with hc; injection hc with hc1 hc2; injection heq with heq1 heq2
                    exact ⟨v, heq1, heq2, hc1.symm, hc2.symm⟩
                  · cases hc
                obtain ⟨v, rfl, rfl, rfl, rfl⟩ := hcl
                have := acall_sound (V := VZ V.w) hp ihE hF hf hb hex hx hres hfin (sit_VZ V.w) (vals := vals) ⟨A.1, fun i x hx => by simp at hx⟩ (n := m)
                exact this.mono (fun ed w' h => post_shut S h)
              split at h
              · rename_i env1 H1 hex
                exact fin hex (.inl rfl) h
              · rename_i env1 H1 hex
                exact fin hex (.inr rfl) h
              · cases h
            split at h
            · rename_i env1 H1 hex
              obtain ⟨xs, hres, hfin⟩ := Option.map_eq_some_iff.1 h
              exact acall_sound hp ihE hF hf hb hex (.inl rfl) hres hfin S A
            · rename_i env1 H1 hex
              obtain ⟨xs, hres, hfin⟩ := Option.map_eq_some_iff.1 h
              exact acall_sound hp ihE hF hf hb hex (.inr rfl) hres hfin S A
            · cases h
        · cases h
      · cases h

theorem fine_wide : Fine Fence.wide := ⟨fun _ => trivial, rfl⟩

/-- What the abstract machine answers, Go answers. -/
theorem sound (hp : progOk P = true) (hmix : P.follows .mixedOrders = true) {n : Nat} {f : FuncId} {args : List AV} {H : AH} {r : AV} {e : Eff} (h : acall P n f args H = some (r, e)) {V : View} {vals : Array Value} (S : SitH V H) (A : ASR V args vals) :
    Calls P f vals V.w (CallPost V H r e) :=
  callsIn_wide.1 ((((main hp hmix n).2.1) Fence.wide fine_wide 0 f args H r e h V vals S A).2)

end
end Go.AM
