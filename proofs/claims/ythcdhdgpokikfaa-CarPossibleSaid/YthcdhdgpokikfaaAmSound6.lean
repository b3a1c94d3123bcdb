/- A range over a function. -/
import Derived.Test.YthcdhdgpokikfaaAmSound5
namespace Go.AM

theorem run_enterLoop_inner {P : Program} {w : World} {l : Nat} {L : Loop} (h : w.heap[l]? = some (.loop L)) (fn : FuncId) (tmps : Array Value) (ps : Array Tmp) (assign body : Code) :
    (Instr.enterLoop fn tmps ps assign body (some l)).run P w =
      .ok (w.heap.size, []) (w.alloc (.loop { state := .ready, pending := none, fn, tmps, params := ps, assign, body, defers := L.defers })) := by
  unfold Instr.enterLoop
  simp only [Sem.run_bind, run_newObj_alloc, Result.andThen, Sem.run_pure, run_getLoop h]

/-- The record is laid. -/
theorem enter_sound {P : Program} {F : Fence} {V : View} {H : AH} {env : Env} {base : Nat} {a : Act} (S : Sit V H env F.round base a) (hbase : base ≤ V.w.heap.size) (fn : FuncId) {ps : Array Tmp} {assign body : Code}
    (hc : ps.toList.all (fun t => decide (t < a.tmps.size)) = true ∧ codeOk a.tmps.size assign = true ∧ codeOk a.tmps.size body = true) :
    ∃ (l : Nat) (mark : List Deferred) (V1 : View), (Instr.enterLoop fn a.tmps ps assign body F.round).run P V.w = .ok (l, mark) V1.w ∧
      Step V H V1 (H.app (some (H.nx, .loop ⟨ps.toList, env, assign, body, true, none, false⟩))) ∧
      Sit V1 (H.app (some (H.nx, .loop ⟨ps.toList, env, assign, body, true, none, false⟩))) env F.round base { a with defers := mark ++ a.defers } ∧
      V1.mu H.nx = l := by
  have lay : ∀ (V0 : View), Step V H V0 H → SitH V0 H → ∀ (dn : Nat) (w' : World), w'.heap = V0.w.heap.push (.loop { state := .ready, pending := none, fn, tmps := a.tmps, params := ps, assign, body, defers := dn }) → Wio V0.w w' →
      Step V H ⟨w', upd V0.mu H.nx V0.w.heap.size, bapp V0.bl (some (H.nx, .loop ⟨ps.toList, env, assign, body, true, none, false⟩)), V0.hid⟩ (H.app (some (H.nx, .loop ⟨ps.toList, env, assign, body, true, none, false⟩))) ∧
      SitH ⟨w', upd V0.mu H.nx V0.w.heap.size, bapp V0.bl (some (H.nx, .loop ⟨ps.toList, env, assign, body, true, none, false⟩)), V0.hid⟩ (H.app (some (H.nx, .loop ⟨ps.toList, env, assign, body, true, none, false⟩))) := by
    intro V0 T0 S0 dn w' hw hio
    have hn : V0.bl H.nx = .none := by rw [S0.bl]; exact S0.nx _ (Nat.le_refl _)
    have E := View.alloc S0.hr hw hn (.loop ⟨ps.toList, env, assign, body, true, none, false⟩) hio
    have HH := HR.alloc S0.hr hw hn (k := .loop ⟨ps.toList, env, assign, body, true, none, false⟩) (fun V' hV' E' ho => ⟨_, ho, ⟨rfl, rfl, rfl, (S.er.mono T0.ext).mono E', hc, fun _ _ => ⟨rfl, rfl, rfl⟩, fun j _ h => by cases h⟩⟩) hio
    obtain ⟨h1, h2⟩ := step_app (d := some (H.nx, .loop ⟨ps.toList, env, assign, body, true, none, false⟩)) (mu' := upd V0.mu H.nx V0.w.heap.size) S0 E HH (fun j hj => upd_ne _ _ (ne_of_d hj))
    exact ⟨T0.trans h1, h2⟩
  cases hro : F.round with
  | none =>
    obtain ⟨E0, H0⟩ := View.extra S.hr (w' := V.w.alloc (.deferred (some []))) (o := .deferred (some [])) rfl
    have T0 : Step V H ⟨V.w.alloc (.deferred (some [])), V.mu, V.bl, V.hid⟩ H := ⟨E0, Nat.le_refl _, Nat.le_refl _, fun _ _ _ => ⟨rfl, rfl⟩⟩
    obtain ⟨T1, S1⟩ := lay _ T0 ⟨S.bl, S.nx, H0⟩ V.w.heap.size ((V.w.alloc (.deferred (some []))).alloc (.loop { state := .ready, pending := none, fn, tmps := a.tmps, params := ps, assign, body, defers := V.w.heap.size })) rfl ⟨rfl, rfl, rfl⟩
    refine ⟨_, _, _, run_enterLoop_outer fn a.tmps ps assign body, T1, ⟨S1, S.er.mono T1.ext, ?_, ?_⟩, ?_⟩
    · obtain ⟨rs, hds, hnd, hr⟩ := S.dr.mono T1.ext
      obtain ⟨rs0, hds0, hnd0, hr0⟩ := S.dr
      have hrs : rs = rs0 := by
        rw [hds] at hds0
        have : ∀ (xs ys : List Nat), xs.map (fun r => ({ target := .collected r, args := #[] } : Deferred)) = ys.map (fun r => { target := .collected r, args := #[] }) → xs = ys := by
          intro xs
          induction xs with
          | nil => intro ys h; cases ys with | nil => rfl | cons _ _ => simp at h
          | cons x xs ih =>
            intro ys h
            cases ys with
            | nil => simp at h
            | cons y ys =>
              simp only [List.map_cons, List.cons.injEq] at h
              obtain ⟨h1, h2⟩ := h
              injection h1 with h1
              injection h1 with h1
              rw [h1, ih ys h2]
        exact this _ _ hds0
      subst hrs
      refine ⟨V.w.heap.size :: rs, by simp [hds], List.nodup_cons.2 ⟨fun hin => ?_, hnd⟩, fun r hr' => ?_⟩
      · have := (Array.getElem?_eq_some_iff.1 (hr0 _ hin).1.1).1
        omega
      · rcases List.mem_cons.1 hr' with rfl | hr'
        · refine ⟨⟨?_, ?_⟩, hbase⟩
          · show ((V.w.alloc (.deferred (some []))).alloc _).heap[V.w.heap.size]? = _
            rw [push_lt (w := V.w.alloc (.deferred (some []))) rfl (by simp)]
            exact World.alloc_heap_new _ _
          · rintro (hh | ⟨j, hl, hm⟩)
            · have := (S.hr.hid _ hh).1; omega
            · simp only at hl hm
              by_cases hj : j = H.nx
              · subst hj; rw [upd_same] at hm; simp at hm
              · rw [upd_ne _ _ hj] at hm
                simp only [bapp] at hl
                rw [upd_ne _ _ hj] at hl
                have := S.hr.lt hl
                omega
        · exact hr r hr'
    · intro l hl; cases hl
    · simp only [upd_same, World.size_alloc]
  | some l =>
    obtain ⟨h, r, h1, h2⟩ := S.rd l hro
    obtain ⟨L, hL, hLR⟩ := loop_of S.hr h1
    rw [h2] at hL
    obtain ⟨T1, S1⟩ := lay V (Step.refl _ _) S.toSitH L.defers (V.w.alloc (.loop { state := .ready, pending := none, fn, tmps := a.tmps, params := ps, assign, body, defers := L.defers })) rfl ⟨rfl, rfl, rfl⟩
    refine ⟨_, _, _, run_enterLoop_inner hL fn a.tmps ps assign body, T1, ⟨S1, S.er.mono T1.ext, ?_, ?_⟩, ?_⟩
    · exact S.dr.mono T1.ext
    · rw [← hro]; exact S.rd.mono T1.ext
    · simp only [upd_same]

theorem rangeFunc_wp {P : Program} {ac : FuncId → List AV → AH → Option (AV × Eff)} (ha : ACallOk P ac) {F : Fence} (hF : Fine F) {n : Nat} {g : Operand} {ps : Array Tmp} {assign body : Code} {V : View} {H : AH} {env : Env} {base : Nat} {a : Act}
    (S : Sit V H env F.round base a) (hbase : base ≤ V.w.heap.size) (hc : codeOk a.tmps.size (.rangeFunc g ps assign body) = true) {f : FuncId} {first caps : List Cell} (hg : (evo env g).cell = some (.fn (.func f) first caps)) {r0 : AV} {e : Eff} {r : LoopRec} {x : AX}
    (hcall : ac f (first.map .one ++ [.one (.yl H.nx)] ++ caps.map .one) (H.app (some (H.nx, .loop ⟨ps.toList, env, assign, body, true, none, false⟩))) = some (r0, e))
    (hb : (e.app (H.app (some (H.nx, .loop ⟨ps.toList, env, assign, body, true, none, false⟩)))).bl H.nx = .loop r) (hov : r.over = false)
    (hj : (r.pending = none ∧ r.ready = true ∧ x = .normal) ∨ (∃ j, r.pending = some j ∧ r.ready = false ∧ x = .jump j)) :
    (Code.rangeFunc g ps assign body).wpIn F n P (XPost V H x env ((e.app (H.app (some (H.nx, .loop ⟨ps.toList, env, assign, body, true, none, false⟩)))).app (some (H.nx, .loop { r with over := true }))) F.round base a.tmps.size) a V.w := by
  simp only [codeOk, Bool.and_eq_true] at hc
  refine wpIn_rangeFunc (fun fn _ => ?_)
  obtain ⟨l, mark, V1, hent, T1, S1, hmu⟩ := enter_sound (P := P) S hbase fn (ps := ps) (assign := assign) (body := body) ⟨hc.1.1, hc.1.2, hc.2⟩
  have hgc := cell_sound (evo_sound S1.er g) hg
  have key : ∃ p' q', a.eval g = .func (.func f) p' q' ∧ ASR V1 (first.map .one) p' ∧ ASR V1 (caps.map .one) q' := by
    have hgc : CR V1 (.fn (.func f) first caps) (a.eval g) := hgc
    generalize a.eval g = gv at hgc
    cases hgc with
    | ro hc => cases hc; exact ⟨_, _, rfl, ⟨rfl, fun i x hx => by simp at hx⟩, ⟨rfl, fun i x hx => by simp at hx⟩⟩
    | fn h1 h2 h3 h4 => exact ⟨_, _, rfl, cells_asr h1 h3, cells_asr h2 h4⟩
  obtain ⟨p', q', hgv, hp, hq⟩ := key
  have hbl1 : V1.bl H.nx = .loop ⟨ps.toList, env, assign, body, true, none, false⟩ := by rw [S1.bl]; exact upd_same _ _ _
  have hy : ASR V1 [.one (.yl H.nx)] #[.func (.yield l) #[] #[]] := by
    refine ⟨rfl, fun i x hx => ?_⟩
    cases i with
    | zero => simp at hx; subst hx; exact .one (.yl (by rw [hbl1]; simp) (fun _ _ => hmu.symm))
    | succ i => simp at hx
  obtain ⟨h1, h2⟩ := ha F hF (n - 1) f _ _ r0 e hcall V1 (p' ++ #[.func (.yield l) #[] #[]] ++ q') S1.toSitH ((hp.append hy).append hq)
  refine ⟨l, mark, V1.w, { target := .fn (.func f) q', args := p' ++ #[.func (.yield l) #[] #[]] }, V1.w, f, _, V1.w, hent, ?_, fun f' _ => hF.fn f', h1 V1.w, hF.le1, h2.mono (fun ed w3 hed => ?_)⟩
  · simp only [resolve, hgv, Deferred.ofValue]
    simp [Act.eval]
  · cases ed with
    | returned v =>
      obtain ⟨V3, rfl, T3, S3, _⟩ := hed
      have hm3 : V3.mu H.nx = l := (loop_turn T3.ext hbl1).trans hmu
      rw [← S3.bl] at hb
      obtain ⟨L, hL, hLR⟩ := loop_of S3.hr hb
      obtain ⟨T4, S4⟩ := write_loop S3 hb (L' := { L with state := .exhausted }) (r' := { r with over := true }) (fun V' E => ⟨hLR.params, hLR.assign, hLR.body, hLR.env.mono E, hLR.ok, fun h => by simp at h, fun j h => by simp at h⟩)
      have fin : ∀ (V4 : View), V4 = ⟨V3.w.putObj (V3.mu H.nx) (.loop { L with state := .exhausted }), V3.mu, bapp V3.bl (some (H.nx, .loop { r with over := true })), V3.hid⟩ → ∀ ex, ex = x.exit → XPost V H x env ((e.app (H.app (some (H.nx, .loop ⟨ps.toList, env, assign, body, true, none, false⟩)))).app (some (H.nx, .loop { r with over := true }))) F.round base a.tmps.size ex { a with defers := mark ++ a.defers } V4.w := by
        intro V4 hV4 ex hex
        have E14 := T3.ext.trans T4.ext
        subst hV4
        exact ⟨hex, _, rfl, T1.trans (T3.trans T4), ⟨S4, S1.er.mono E14, S1.dr.mono E14, S1.rd.mono E14⟩, rfl⟩
      rcases hj with ⟨hpn, hrd, rfl⟩ | ⟨j, hpn, hrd, rfl⟩
      · obtain ⟨q1, q2, q3⟩ := hLR.ready hov hrd
        have hrun : (Instr.endLoop (V3.mu H.nx)).run P V3.w = _ := (run_endLoop hL (by rw [q1]; simp)).trans (congrArg (fun j => Result.ok j _) q2)
        exact ⟨none, _, by rw [← hm3]; exact hrun, fin _ rfl _ rfl⟩
      · obtain ⟨q1, q2⟩ := hLR.done j hov hrd hpn
        have hrun : (Instr.endLoop (V3.mu H.nx)).run P V3.w = _ := (run_endLoop hL (by rw [q1]; simp)).trans (congrArg (fun j => Result.ok j _) q2)
        refine ⟨some (jumpCode j), _, by rw [← hm3]; exact hrun, ?_⟩
        cases j with
        | ret => exact wpIn_ret (fin _ rfl _ rfl)
        | exit id => exact wpIn_exit (fin _ rfl _ rfl)
        | goto t => exact wpIn_goto (fin _ rfl _ rfl)
    | panicked _ => exact hed.elim
    | outgrown => exact hed.elim

end Go.AM
