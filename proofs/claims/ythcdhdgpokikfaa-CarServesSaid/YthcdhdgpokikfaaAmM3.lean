/- Calls of closures and of yield; ranges over functions; scopes. A range over a function. What an operation looks at. The trace of a region in its text's order; what stands before what. A region that draws its order: what holds when some of its operations have come up. One operation more has come up, whatever the order. Operations and calls that come up in whatever order. A call that leaves the heap as it was, or with one row more: what has come up behind it in the text is hidden from it. A region that draws its order. The abstract machine is sound. The end of a law: what a row asks behind the call. The start of a law: what is read off the arguments. The arguments of a law; the statement. What arguments look like, type by type. -/
import Derived.Test.YthcdhdgpokikfaaAmM2
import Derived.ProofKit
import Derived.Test.YthcdhdgpokikfaaAmM1
import Derived.Handed
import Derived.JoinedOf
namespace Go.AM

theorem loop_of {V : View} (H : HR V) {h : Nat} {r : LoopRec} (hb : V.bl h = .loop r) : ∃ L, V.w.heap[V.mu h]? = some (.loop L) ∧ LR V r L := H.at hb
theorem loop_turn {V V' : View} (E : Ext V V') {h : Nat} {r : LoopRec} (hb : V.bl h = .loop r) : V'.mu h = V.mu h := by
  have t := E.turn h
  unfold Turn at t
  rw [hb] at t
  obtain ⟨_, _, t⟩ := t
  exact t

/-- A loop's record is written. -/
theorem write_loop {V : View} {H : AH} (S : SitH V H) {h : Nat} {r : LoopRec} (hb : V.bl h = .loop r) {L' : Loop} {r' : LoopRec}
    (hl : ∀ V' : View, Ext V V' → LR V' r' L') :
    let V' : View := ⟨V.w.putObj (V.mu h) (.loop L'), V.mu, bapp V.bl (some (h, .loop r')), V.hid⟩
    Step V H V' (H.app (some (h, .loop r'))) ∧ SitH V' (H.app (some (h, .loop r'))) := by
  intro V'
  have hlive : (V.bl h).live := by rw [hb]; trivial
  have hsz : (V.w.putObj (V.mu h) (.loop L')).heap.size = V.w.heap.size := World.putObj_size
  have hne : ∀ b, b ≠ V.mu h → (V.w.putObj (V.mu h) (.loop L')).heap[b]? = V.w.heap[b]? := fun b hb => World.putObj_heap_other hb
  have ht : Turn V ⟨V.w.putObj (V.mu h) (.loop L'), V.mu, upd V.bl h (.loop r'), V.hid⟩ h := by
    unfold Turn; rw [hb]; exact ⟨r', upd_same _ _ _, rfl⟩
  have E := View.write S.hr hlive hsz hne (.loop r') ht
  have HH := HR.write S.hr hlive hsz hne ht (fun V1 hV1 E1 => ⟨L', by rw [hV1]; exact World.putObj_heap_same (S.hr.lt hlive), hl V1 E1⟩)
  exact step_app S E HH (fun j hj => rfl)

theorem zip_fold {ps : Array Tmp} {vals ts : Array Value} : ((ps.zip vals).foldl (fun tmps (t, a) => tmps.setIfInBounds t a) ts) = ((ps.toList.zip vals.toList).foldl (fun tmps (t, a) => tmps.setIfInBounds t a) ts) := by
  rw [← Array.foldl_toList]; simp

theorem callCell_ok {P : Program} {ex : Code → Env → AH → Option (AX × Env × AH)} {ac : FuncId → List AV → AH → Option (AV × Eff)} (hx : ExecOk P ex) (ha : ACallOk P ac) : CallOk P (callCell ex ac) := by
  intro F hF n fc args H r e h V fv vals S hc A
  unfold callCell at h
  split at h
  · rename_i f first caps
    have key : ∃ p' q', fv = .func (.func f) p' q' ∧ ASR V (first.map .one) p' ∧ ASR V (caps.map .one) q' := by
      cases hc with
      | ro hc => cases hc; exact ⟨_, _, rfl, ⟨rfl, fun i x hx => by simp at hx⟩, ⟨rfl, fun i x hx => by simp at hx⟩⟩
      | fn h1 h2 h3 h4 => exact ⟨_, _, rfl, cells_asr h1 h3, cells_asr h2 h4⟩
    obtain ⟨p', q', rfl, hp, hq⟩ := key
    obtain ⟨h1, h2⟩ := ha F hF n f _ H r e h V (p' ++ vals ++ q') S ((hp.append A).append hq)
    exact .inl ⟨f, _, h1 V.w, h2⟩
  · rename_i l
    split at h
    · rename_i r0 hbl
      rw [← S.bl] at hbl
      split at h
      · rename_i hlen
        obtain ⟨L, hL, hLR⟩ := loop_of S.hr hbl
        have hfv : fv = .func (.yield (V.mu l)) #[] #[] := by
          cases hc with
          | ro hc => cases hc
          | yl h1 h2 => rw [h2 _ hbl]
        subst hfv
        have hps : L.params.size = r0.params.length := by rw [← hLR.params]; simp
        have hsz : (#[] ++ vals).size = L.params.size := by have := A.len; simp; omega
        have hrun : (calling (.func (.yield (V.mu l)) #[] #[]) vals).run P V.w = .ok (.round (V.mu l) L.fn (((L.params.zip (#[] ++ vals))).foldl (fun tmps (t, a) => tmps.setIfInBounds t a) L.tmps) L.assign L.body) V.w := run_yield hL hsz
        obtain ⟨hER, hTS⟩ := setParams_er (ps := r0.params) (args := args) (vals := vals.toList) hLR.env hlen.symm (by have := A.len; simpa using this) (fun i x hx => by
          have := A.get i x hx
          rw [Array.getD_eq_getD_getElem?] at this
          simpa [List.getD] using this) (by have := hLR.ok.1; simpa using this)
        have hts : ((L.params.zip (#[] ++ vals))).foldl (fun tmps (t, a) => tmps.setIfInBounds t a) L.tmps = ((r0.params.zip vals.toList).foldl (fun tmps (t, a) => tmps.setIfInBounds t a) L.tmps) := by
          rw [zip_fold, hLR.params]; simp
        rw [hts] at hrun
        rw [hLR.assign, hLR.body] at hrun
        refine .inr ⟨_, _, _, _, _, hrun, roundIn_of_wpIn (hF.fn _) ?_⟩
        split at h
        · rename_i env2 H2 hex1
          split at h
          · rename_i r2 hb2
            split at h
            · rename_i hrdy
              split at h
              · rename_i x env4 H4 hex2
                split at h
                · rename_i r4 hb4
                  -- the assignments
                  have S0 : Sit V H (setParams r0.env r0.params args) (F.inRound (V.mu l)).round V.w.heap.size { tmps := (r0.params.zip vals.toList).foldl (fun tmps (t, a) => tmps.setIfInBounds t a) L.tmps, defers := [] } :=
                    ⟨S, hER, DR.nil _ _, fun l' hl' => by injection hl' with hl'; subst hl'; exact ⟨l, r0, hbl, rfl⟩⟩
                  refine wpIn_mono (hx (F.inRound (V.mu l)) (hF.inRound _) n _ _ _ _ _ _ hex1 V _ _ S0 (by rw [hTS]; exact hLR.ok.2.1) (Nat.le_refl _)) (fun ext a1 w1 hq => ?_)
                  obtain ⟨rfl, V2, rfl, T2, S2, hsz2⟩ := hq
                  have hm2 : V2.mu l = V.mu l := loop_turn T2.ext hbl
                  rw [← S2.bl] at hb2
                  obtain ⟨L2, hL2, hLR2⟩ := loop_of S2.hr hb2
                  obtain ⟨q1, q2, q3⟩ := hLR2.ready hrdy.2 hrdy.1
                  obtain ⟨T3, S3⟩ := write_loop S2.toSitH hb2 (L' := { L2 with state := .busy }) (r' := { r2 with ready := false }) (fun V' E => ⟨hLR2.params, hLR2.assign, hLR2.body, hLR2.env.mono E, hLR2.ok, fun _ h2 => by simp at h2, fun j _ _ h3 => by simp only [q3] at h3; cases h3⟩)
                  refine ⟨V2.w.putObj (V2.mu l) (.loop { L2 with state := .busy }), by rw [← hm2]; exact run_beginRound hL2 q1, ?_⟩
                  have S3' : Sit _ _ env2 (F.inRound (V.mu l)).round V.w.heap.size a1 := ⟨S3, S2.er.mono T3.ext, S2.dr.mono T3.ext, S2.rd.mono T3.ext⟩
                  refine wpIn_mono (hx (F.inRound (V.mu l)) (hF.inRound _) n _ _ _ _ _ _ hex2 _ a1 _ S3' (by rw [hsz2, hTS]; exact hLR.ok.2.2) (Nat.le_trans T2.ext.size T3.ext.size)) (fun ext a4 w4 hq => ?_)
                  obtain ⟨rfl, V4, rfl, T4, S4, hsz4⟩ := hq
                  have hm4 : V4.mu l = V.mu l := by
                    rw [← hm2]
                    exact loop_turn T4.ext (h := l) (r := { r2 with ready := false }) (by simp only [bapp, upd_same])
                  rw [← S4.bl] at hb4
                  obtain ⟨L4, hL4, hLR4⟩ := loop_of S4.hr hb4
                  cases x with
                  | normal =>
                    injection h with h; injection h with h1 h2; subst h1 h2
                    obtain ⟨T5, S5⟩ := write_loop S4.toSitH hb4 (L' := { L4 with state := if (none : Option Code).isNone then .ready else .done, pending := none }) (r' := { r4 with ready := true, pending := none, over := false }) (fun V' E => ⟨hLR4.params, hLR4.assign, hLR4.body, hLR4.env.mono E, hLR4.ok, fun _ _ => ⟨rfl, rfl, rfl⟩, fun j _ h2 => by simp at h2⟩)
                    refine ⟨_, _, by rw [← hm4]; exact run_endRound none hL4, _, rfl, (T2.trans (T3.trans (T4.trans T5))), S5, .one (.ro (.sc rfl))⟩
                  | jump j =>
                    injection h with h; injection h with h1 h2; subst h1 h2
                    obtain ⟨T5, S5⟩ := write_loop S4.toSitH hb4 (L' := { L4 with state := if (some (jumpCode j) : Option Code).isNone then .ready else .done, pending := some (jumpCode j) }) (r' := { r4 with ready := false, pending := some j, over := false }) (fun V' E => ⟨hLR4.params, hLR4.assign, hLR4.body, hLR4.env.mono E, hLR4.ok, fun _ h2 => by simp at h2, fun j' _ _ h3 => by injection h3 with h3; subst h3; exact ⟨rfl, rfl⟩⟩)
                    have goal : ∃ v w', (Instr.endRound (V.mu l) (some (jumpCode j))).run P V4.w = .ok v w' ∧ CallPost V H (.one (.sc (.bool false))) (.full (H4.app (some (l, .loop { r4 with ready := false, pending := some j, over := false })))) (.returned v) w' :=
                      ⟨_, _, by rw [← hm4]; exact run_endRound _ hL4, _, rfl, (T2.trans (T3.trans (T4.trans T5))), S5, .one (.ro (.sc rfl))⟩
                    cases j <;> exact goal
                · cases h
              · cases h
            · cases h
          · cases h
        · cases h
      · cases h
    · cases h
  · cases h

/-- Something more in the heap. -/
theorem View.extra {V : View} (H : HR V) {w' : World} {o : Obj} (hw : w'.heap = V.w.heap.push o) (hio : Wio V.w w' := by exact ⟨rfl, rfl, rfl⟩) : Ext V ⟨w', V.mu, V.bl, V.hid⟩ ∧ HR ⟨w', V.mu, V.bl, V.hid⟩ := by
  have E : Ext V ⟨w', V.mu, V.bl, V.hid⟩ := ⟨⟨by simp [hw], fun b hb ho => ⟨push_lt hw hb, ho⟩, fun h => .of_same rfl rfl (fun hl => push_lt hw (H.lt hl))⟩, hio, fun b hb => ⟨hb, push_lt hw (H.hid b hb).1⟩⟩
  refine ⟨E, ⟨fun h => ?_, H.inj, fun b hb => ⟨by simp only [hw, Array.size_push]; have := (H.hid b hb).1; omega, (H.hid b hb).2⟩⟩⟩
  show Holds _ (V.mu h) (V.bl h)
  cases hb : V.bl h with
  | none => trivial
  | dead => trivial
  | _ => rw [← hb]; exact (H.holds h).mono E (push_lt hw (H.lt (by rw [hb]; trivial)))

section
variable {P : Program} {b : Frame} {a : Act} {k : List Item} {cs : List Frame} {w : World} {Q : Exit → Act → World → Prop} {F : Fence} {n : Nat}
theorem stepR_scope {c : Code} : step P (lone (b.atR a (.code (.scope c) :: k)) cs w) = .next (lone (b.atR a (.code c :: .inScope c :: k)) cs w) :=
  step_lone_go (by simp [stepG, stepG.exec, Frame.atR])
theorem stepR_inScope {c : Code} : step P (lone (b.atR a (.inScope c :: k)) cs w) = .next (lone (b.atR a k) cs w) :=
  step_lone_go (by simp [stepG, stepG.exec, Frame.atR])

theorem wpIn_scope {c : Code} (h : c.wpIn F n P (fun e a w => (∀ l, e ≠ .goto l) ∧ Q e a w) a w) : (Code.scope c).wpIn F n P Q a w := by
  intro b k cs hro hb hr
  have h0 : (lone (b.atR a (.code (.scope c) :: k)) cs w).fenced P F := fenced_calm hb hr rfl
  obtain ⟨e, a₁, w₁, hq, harr⟩ := h b (.inScope c :: k) cs hro hb hr
  cases e with
  | normal => exact ⟨.normal, a₁, w₁, hq.2, .head h0 stepR_scope (StepsIn.trans harr (.one (fenced_calm hb hr rfl) stepR_inScope))⟩
  | exit id =>
    exact ⟨.exit id, a₁, w₁, hq.2, fun k' hk => .head h0 stepR_scope (harr.1 k' (by simp [exitTo, hk])),
      fun hr' hk => let ⟨k₁, h1, h2⟩ := harr.2 hr' (by simp [exitTo, hk]); ⟨k₁, h1, .head h0 stepR_scope h2⟩⟩
  | goto l => exact absurd rfl (hq.1 l)
  | ret => exact ⟨_, a₁, w₁, hq.2, .of_steps (.one h0 stepR_scope) harr⟩
  | panic ch => exact ⟨_, a₁, w₁, hq.2, .of_steps (.one h0 stepR_scope) harr⟩
  | outgrown => exact ⟨_, a₁, w₁, hq.2, .of_steps (.one h0 stepR_scope) harr⟩
end

end Go.AM

namespace Go.AM

theorem run_enterLoop_inner {P : Program} {w : World} {l : Nat} {L : Loop} (h : w.heap[l]? = some (.loop L)) (fn : FuncId) (tmps : Array Value) (ps : Array Tmp) (assign body : Code) :
    (Instr.enterLoop fn tmps ps assign body (some l)).run P w =
      .ok (w.heap.size, []) (w.alloc (.loop { state := .ready, pending := none, fn, tmps, params := ps, assign, body, defers := L.defers })) := by
  unfold Instr.enterLoop
  simp only [Sem.run_bind, run_newObj_alloc, Result.andThen, Sem.run_pure, run_getLoop h]

/-- The record is laid. -/
theorem enter_sound {P : Program} {F : Fence} {V : View} {H : AH} {env : Env} {base : Nat} {a : Act} (S : Sit V H env F.round base a) (hbase : base ≤ V.w.heap.size) (fn : FuncId) {ps : Array Tmp} {assign body : Code}
    (hc : ps.toList.all (fun t => decide (t < a.tmps.size)) = true ∧ codeOk a.tmps.size assign = true ∧ codeOk a.tmps.size body = true) :
    ∃ (l : Nat) (mark : List Deferred) (V1 : View), (Instr.enterLoop fn a.tmps ps assign body F.round).run P V.w = .ok (l, mark) V1.w ∧
      Step V H V1 (H.app (some (H.nx, .loop ⟨ps.toList, env, assign, body, true, none, false⟩))) ∧
      Sit V1 (H.app (some (H.nx, .loop ⟨ps.toList, env, assign, body, true, none, false⟩))) env F.round base { a with defers := mark ++ a.defers } ∧
      V1.mu H.nx = l := by
  have lay : ∀ (V0 : View), Step V H V0 H → SitH V0 H → ∀ (dn : Nat) (w' : World), w'.heap = V0.w.heap.push (.loop { state := .ready, pending := none, fn, tmps := a.tmps, params := ps, assign, body, defers := dn }) → Wio V0.w w' →
      Step V H ⟨w', upd V0.mu H.nx V0.w.heap.size, bapp V0.bl (some (H.nx, .loop ⟨ps.toList, env, assign, body, true, none, false⟩)), V0.hid⟩ (H.app (some (H.nx, .loop ⟨ps.toList, env, assign, body, true, none, false⟩))) ∧
      SitH ⟨w', upd V0.mu H.nx V0.w.heap.size, bapp V0.bl (some (H.nx, .loop ⟨ps.toList, env, assign, body, true, none, false⟩)), V0.hid⟩ (H.app (some (H.nx, .loop ⟨ps.toList, env, assign, body, true, none, false⟩))) := by
    intro V0 T0 S0 dn w' hw hio
    have hn : V0.bl H.nx = .none := by rw [S0.bl]; exact S0.nx _ (Nat.le_refl _)
    have E := View.alloc S0.hr hw hn (.loop ⟨ps.toList, env, assign, body, true, none, false⟩) hio
    have HH := HR.alloc S0.hr hw hn (k := .loop ⟨ps.toList, env, assign, body, true, none, false⟩) (fun V' hV' E' ho => ⟨_, ho, ⟨rfl, rfl, rfl, (S.er.mono T0.ext).mono E', hc, fun _ _ => ⟨rfl, rfl, rfl⟩, fun j _ h => by cases h⟩⟩) hio
    obtain ⟨h1, h2⟩ := step_app (d := some (H.nx, .loop ⟨ps.toList, env, assign, body, true, none, false⟩)) (mu' := upd V0.mu H.nx V0.w.heap.size) S0 E HH (fun j hj => upd_ne _ _ (ne_of_d hj))
    exact ⟨T0.trans h1, h2⟩
  cases hro : F.round with
  | none =>
    obtain ⟨E0, H0⟩ := View.extra S.hr (w' := V.w.alloc (.deferred (some []))) (o := .deferred (some [])) rfl
    have T0 : Step V H ⟨V.w.alloc (.deferred (some [])), V.mu, V.bl, V.hid⟩ H := ⟨E0, Nat.le_refl _, Nat.le_refl _, fun _ _ _ => ⟨rfl, rfl⟩⟩
    obtain ⟨T1, S1⟩ := lay _ T0 ⟨S.bl, S.nx, H0⟩ V.w.heap.size ((V.w.alloc (.deferred (some []))).alloc (.loop { state := .ready, pending := none, fn, tmps := a.tmps, params := ps, assign, body, defers := V.w.heap.size })) rfl ⟨rfl, rfl, rfl⟩
    refine ⟨_, _, _, run_enterLoop_outer fn a.tmps ps assign body, T1, ⟨S1, S.er.mono T1.ext, ?_, ?_⟩, ?_⟩
    · obtain ⟨rs, hds, hnd, hr⟩ := S.dr.mono T1.ext
      obtain ⟨rs0, hds0, hnd0, hr0⟩ := S.dr
      have hrs : rs = rs0 := by
        rw [hds] at hds0
        have : ∀ (xs ys : List Nat), xs.map (fun r => ({ target := .collected r, args := #[] } : Deferred)) = ys.map (fun r => { target := .collected r, args := #[] }) → xs = ys := by
          intro xs
          induction xs with
          | nil => intro ys h; cases ys with | nil => rfl | cons _ _ => simp at h
          | cons x xs ih =>
            intro ys h
            cases ys with
            | nil => simp at h
            | cons y ys =>
              simp only [List.map_cons, List.cons.injEq] at h
              obtain ⟨h1, h2⟩ := h
              injection h1 with h1
              injection h1 with h1
              rw [h1, ih ys h2]
        exact this _ _ hds0
      subst hrs
      refine ⟨V.w.heap.size :: rs, by simp [hds], List.nodup_cons.2 ⟨fun hin => ?_, hnd⟩, fun r hr' => ?_⟩
      · have := (Array.getElem?_eq_some_iff.1 (hr0 _ hin).1.1).1
        omega
      · rcases List.mem_cons.1 hr' with rfl | hr'
        · refine ⟨⟨?_, ?_⟩, hbase⟩
          · show ((V.w.alloc (.deferred (some []))).alloc _).heap[V.w.heap.size]? = _
            rw [push_lt (w := V.w.alloc (.deferred (some []))) rfl (by simp)]
            exact World.alloc_heap_new _ _
          · rintro (hh | ⟨j, hl, hm⟩)
            · have := (S.hr.hid _ hh).1; omega
            · simp only at hl hm
              by_cases hj : j = H.nx
              · subst hj; rw [upd_same] at hm; simp at hm
              · rw [upd_ne _ _ hj] at hm
                simp only [bapp] at hl
                rw [upd_ne _ _ hj] at hl
                have := S.hr.lt hl
                omega
        · exact hr r hr'
    · intro l hl; cases hl
    · simp only [upd_same, World.size_alloc]
  | some l =>
    obtain ⟨h, r, h1, h2⟩ := S.rd l hro
    obtain ⟨L, hL, hLR⟩ := loop_of S.hr h1
    rw [h2] at hL
    obtain ⟨T1, S1⟩ := lay V (Step.refl _ _) S.toSitH L.defers (V.w.alloc (.loop { state := .ready, pending := none, fn, tmps := a.tmps, params := ps, assign, body, defers := L.defers })) rfl ⟨rfl, rfl, rfl⟩
    refine ⟨_, _, _, run_enterLoop_inner hL fn a.tmps ps assign body, T1, ⟨S1, S.er.mono T1.ext, ?_, ?_⟩, ?_⟩
    · exact S.dr.mono T1.ext
    · rw [← hro]; exact S.rd.mono T1.ext
    · simp only [upd_same]

theorem rangeFunc_wp {P : Program} {ac : FuncId → List AV → AH → Option (AV × Eff)} (ha : ACallOk P ac) {F : Fence} (hF : Fine F) {n : Nat} {g : Operand} {ps : Array Tmp} {assign body : Code} {V : View} {H : AH} {env : Env} {base : Nat} {a : Act}
    (S : Sit V H env F.round base a) (hbase : base ≤ V.w.heap.size) (hc : codeOk a.tmps.size (.rangeFunc g ps assign body) = true) {f : FuncId} {first caps : List Cell} (hg : (evo env g).cell = some (.fn (.func f) first caps)) {r0 : AV} {e : Eff} {r : LoopRec} {x : AX}
    (hcall : ac f (first.map .one ++ [.one (.yl H.nx)] ++ caps.map .one) (H.app (some (H.nx, .loop ⟨ps.toList, env, assign, body, true, none, false⟩))) = some (r0, e))
    (hb : (e.app (H.app (some (H.nx, .loop ⟨ps.toList, env, assign, body, true, none, false⟩)))).bl H.nx = .loop r) (hov : r.over = false)
    (hj : (r.pending = none ∧ r.ready = true ∧ x = .normal) ∨ (∃ j, r.pending = some j ∧ r.ready = false ∧ x = .jump j)) :
    (Code.rangeFunc g ps assign body).wpIn F n P (XPost V H x env ((e.app (H.app (some (H.nx, .loop ⟨ps.toList, env, assign, body, true, none, false⟩)))).app (some (H.nx, .loop { r with over := true }))) F.round base a.tmps.size) a V.w := by
  simp only [codeOk, Bool.and_eq_true] at hc
  refine wpIn_rangeFunc (fun fn _ => ?_)
  obtain ⟨l, mark, V1, hent, T1, S1, hmu⟩ := enter_sound (P := P) S hbase fn (ps := ps) (assign := assign) (body := body) ⟨hc.1.1, hc.1.2, hc.2⟩
  have hgc := cell_sound (evo_sound S1.er g) hg
  have key : ∃ p' q', a.eval g = .func (.func f) p' q' ∧ ASR V1 (first.map .one) p' ∧ ASR V1 (caps.map .one) q' := by
    have hgc : CR V1 (.fn (.func f) first caps) (a.eval g) := hgc
    generalize a.eval g = gv at hgc
    cases hgc with
    | ro hc => cases hc; exact ⟨_, _, rfl, ⟨rfl, fun i x hx => by simp at hx⟩, ⟨rfl, fun i x hx => by simp at hx⟩⟩
    | fn h1 h2 h3 h4 => exact ⟨_, _, rfl, cells_asr h1 h3, cells_asr h2 h4⟩
  obtain ⟨p', q', hgv, hp, hq⟩ := key
  have hbl1 : V1.bl H.nx = .loop ⟨ps.toList, env, assign, body, true, none, false⟩ := by rw [S1.bl]; exact upd_same _ _ _
  have hy : ASR V1 [.one (.yl H.nx)] #[.func (.yield l) #[] #[]] := by
    refine ⟨rfl, fun i x hx => ?_⟩
    cases i with
    | zero => simp at hx; subst hx; exact .one (.yl (by rw [hbl1]; simp) (fun _ _ => hmu.symm))
    | succ i => simp at hx
  obtain ⟨h1, h2⟩ := ha F hF (n - 1) f _ _ r0 e hcall V1 (p' ++ #[.func (.yield l) #[] #[]] ++ q') S1.toSitH ((hp.append hy).append hq)
  refine ⟨l, mark, V1.w, { target := .fn (.func f) q', args := p' ++ #[.func (.yield l) #[] #[]] }, V1.w, f, _, V1.w, hent, ?_, fun f' _ => hF.fn f', h1 V1.w, hF.le1, h2.mono (fun ed w3 hed => ?_)⟩
  · simp only [resolve, hgv, Deferred.ofValue]
    simp [Act.eval]
  · cases ed with
    | returned v =>
      obtain ⟨V3, rfl, T3, S3, _⟩ := hed
      have hm3 : V3.mu H.nx = l := (loop_turn T3.ext hbl1).trans hmu
      rw [← S3.bl] at hb
      obtain ⟨L, hL, hLR⟩ := loop_of S3.hr hb
      obtain ⟨T4, S4⟩ := write_loop S3 hb (L' := { L with state := .exhausted }) (r' := { r with over := true }) (fun V' E => ⟨hLR.params, hLR.assign, hLR.body, hLR.env.mono E, hLR.ok, fun h => by simp at h, fun j h => by simp at h⟩)
      have fin : ∀ (V4 : View), V4 = ⟨V3.w.putObj (V3.mu H.nx) (.loop { L with state := .exhausted }), V3.mu, bapp V3.bl (some (H.nx, .loop { r with over := true })), V3.hid⟩ → ∀ ex, ex = x.exit → XPost V H x env ((e.app (H.app (some (H.nx, .loop ⟨ps.toList, env, assign, body, true, none, false⟩)))).app (some (H.nx, .loop { r with over := true }))) F.round base a.tmps.size ex { a with defers := mark ++ a.defers } V4.w := by
        intro V4 hV4 ex hex
        have E14 := T3.ext.trans T4.ext
        subst hV4
        exact ⟨hex, _, rfl, T1.trans (T3.trans T4), ⟨S4, S1.er.mono E14, S1.dr.mono E14, S1.rd.mono E14⟩, rfl⟩
      rcases hj with ⟨hpn, hrd, rfl⟩ | ⟨j, hpn, hrd, rfl⟩
      · obtain ⟨q1, q2, q3⟩ := hLR.ready hov hrd
        have hrun : (Instr.endLoop (V3.mu H.nx)).run P V3.w = _ := (run_endLoop hL (by rw [q1]; simp)).trans (congrArg (fun j => Result.ok j _) q2)
        exact ⟨none, _, by rw [← hm3]; exact hrun, fin _ rfl _ rfl⟩
      · obtain ⟨q1, q2⟩ := hLR.done j hov hrd hpn
        have hrun : (Instr.endLoop (V3.mu H.nx)).run P V3.w = _ := (run_endLoop hL (by rw [q1]; simp)).trans (congrArg (fun j => Result.ok j _) q2)
        refine ⟨some (jumpCode j), _, by rw [← hm3]; exact hrun, ?_⟩
        cases j with
        | ret => exact wpIn_ret (fin _ rfl _ rfl)
        | exit id => exact wpIn_exit (fin _ rfl _ rfl)
        | goto t => exact wpIn_goto (fin _ rfl _ rfl)
    | panicked _ => exact hed.elim
    | outgrown => exact hed.elim

end Go.AM

namespace Go.AM

theorem mapM_congr' {α β : Type} {f g : α → Option β} : ∀ {l : List α}, (∀ x ∈ l, f x = g x) → l.mapM f = l.mapM g := by
  intro l
  induction l with
  | nil => intro _; rfl
  | cons a l ih => intro h; rw [List.mapM_cons, List.mapM_cons, h a (by simp), ih (fun x hx => h x (by simp [hx]))]
theorem all_congr' {α : Type} {f g : α → Bool} : ∀ {l : List α}, (∀ x ∈ l, f x = g x) → l.all f = l.all g := by
  intro l
  induction l with
  | nil => intro _; rfl
  | cons a l ih => intro h; rw [List.all_cons, List.all_cons, h a (by simp), ih (fun x hx => h x (by simp [hx]))]

section
variable {P : Program} {nw : Nat} {bl : Nat → Blk} {env env' : Env} {o : Oper}

theorem plainOp_congr (hs : ∀ cs b, o.op ≠ .select cs b) (h : ∀ x ∈ o.op.operands, evo env' x = evo env x) : plainOp P env' o = plainOp P env o := by
  unfold plainOp
  have h1 : o.op.operands.toList.all (fun x => ((evo env' x).toV).isSome) = o.op.operands.toList.all (fun x => ((evo env x).toV).isSome) := all_congr' (fun x hx => by rw [h x (by simpa using hx)])
  have h2 : execOp (fun x => ((evo env' x).toV).getD undef) o = execOp (fun x => ((evo env x).toV).getD undef) o := execOp_congr o hs (fun x hx => by rw [h x hx])
  rw [h1, h2]

theorem aopBuiltin_congr {c : Call} {b : Builtin} (hop : o.op = .call c) (hb : c.callee = .builtin b) (h : ∀ x ∈ o.op.operands, evo env' x = evo env x) : aopBuiltin P nw bl env' o c b = aopBuiltin P nw bl env o c b := by
  have hpl := plainOp_congr (P := P) (env := env) (env' := env') (o := o) (fun cs b hc => by rw [hop] at hc; cases hc) h
  have hargs : ∀ x ∈ c.args.toList, evo env' x = evo env x := fun x hx => h x (by
    rw [hop]; simp only [Op.operands, Call.operands, hb]
    simpa using hx)
  cases b with
  | len =>
    dsimp only [aopBuiltin]
    split
    · rename_i x hx
      rw [hargs x (by rw [hx]; simp), hpl]
    · rfl
  | append =>
    dsimp only [aopBuiltin]
    split
    · rename_i s x t t' hx ht
      rw [hargs s (by rw [hx]; simp), hargs x (by rw [hx]; simp)]
    · rfl
  | max => exact hpl
  | min => exact hpl
  | _ => rfl

theorem aop_congr (h : ∀ x ∈ o.op.operands, evo env' x = evo env x) : aop P nw bl env' o = aop P nw bl env o := by
  have hpl := plainOp_congr (P := P) (env := env) (env' := env') (o := o)
  unfold aop
  cases hop : o.op with
  | call c =>
    simp only
    split
    · rename_i b hb
      exact aopBuiltin_congr hop hb h
    · rfl
  | build t ps =>
    rw [hop] at h
    simp only [Op.operands] at h
    have : ps.toList.mapM (fun p => ((evo env' p.2).cells).map fun cs => (p.1, cs)) = ps.toList.mapM (fun p => ((evo env p.2).cells).map fun cs => (p.1, cs)) := mapM_congr' (fun p hp => by rw [h p.2 (by simp; exact ⟨p.1, by simpa using hp⟩)])
    simp only [this]
  | buildSlice t n ps =>
    rw [hop] at h
    simp only [Op.operands] at h
    have : ps.toList.mapM (fun p => ((evo env' p.2).cells).map fun cs => (p.1, cs)) = ps.toList.mapM (fun p => ((evo env p.2).cells).map fun cs => (p.1, cs)) := mapM_congr' (fun p hp => by rw [h p.2 (by simp; exact ⟨p.1, by simpa using hp⟩)])
    simp only [this]
  | makeFunc f xs ys =>
    rw [hop] at h
    simp only [Op.operands] at h
    have h1 : xs.toList.mapM (fun x => (evo env' x).cell) = xs.toList.mapM (fun x => (evo env x).cell) := mapM_congr' (fun x hx => by rw [h x (by simp; exact .inl (by simpa using hx))])
    have h2 : ys.toList.mapM (fun x => (evo env' x).cell) = ys.toList.mapM (fun x => (evo env x).cell) := mapM_congr' (fun x hx => by rw [h x (by simp; exact .inr (by simpa using hx))])
    simp only [h1, h2]
  | slice t x lo hi mx =>
    rw [hop] at h
    simp only [Op.operands] at h
    have hx := h x (by simp)
    have h1 : lo.map (evo env') = lo.map (evo env) := by cases lo with | none => rfl | some y => simp only [Option.map_some]; rw [h y (by simp)]
    have h2 : hi.map (evo env') = hi.map (evo env) := by cases hi with | none => rfl | some y => simp only [Option.map_some]; rw [h y (by simp)]
    have h3 : mx.map (evo env') = mx.map (evo env) := by cases mx with | none => rfl | some y => simp only [Option.map_some]; rw [h y (by simp)]
    simp only [hx, h1, h2, h3]
  | binOp op t x y ty =>
    have hpl := hpl (fun cs b hc => by rw [hop] at hc; cases hc) h
    rw [hop] at h
    simp only [Op.operands] at h
    have hx := h x (by simp)
    have hy := h y (by simp)
    simp only [eqNil, hx, hy, hpl]
  | index t x y =>
    have hpl := hpl (fun cs b hc => by rw [hop] at hc; cases hc) h
    rw [hop] at h
    simp only [Op.operands] at h
    have hx := h x (by simp)
    have hy := h y (by simp)
    simp only [hx, hy, hpl]
  | unOp _ _ x => exact hpl (fun cs b hc => by rw [hop] at hc; cases hc) h
  | convert _ _ x => exact hpl (fun cs b hc => by rw [hop] at hc; cases hc) h
  | pick c a b =>
    rw [hop] at h
    simp only [Op.operands] at h
    simp only [h c (by simp), h a (by simp), h b (by simp)]
  | store t x y =>
    rw [hop] at h
    simp only [Op.operands] at h
    simp only [h x (by simp), h y (by simp)]
  | makeSlice t x y =>
    rw [hop] at h
    simp only [Op.operands] at h
    simp only [h x (by simp), h y (by simp)]
  | indexAddr t x y =>
    rw [hop] at h
    simp only [Op.operands] at h
    simp only [h x (by simp), h y (by simp)]
  | lookup t x y ok =>
    rw [hop] at h
    simp only [Op.operands] at h
    simp only [h x (by simp), h y (by simp)]
  | mapUpdate t m k x | insert t m k x =>
    rw [hop] at h
    simp only [Op.operands] at h
    simp only [h m (by simp), h k (by simp), h x (by simp)]
  | mapEntry t m k =>
    rw [hop] at h
    simp only [Op.operands] at h
    simp only [h m (by simp), h k (by simp)]
  | entryStore t m k x =>
    rw [hop] at h
    simp only [Op.operands] at h
    simp only [h m (by simp), h k (by simp), h x (by simp)]
  | move x | assign x | box _ x | load _ x | nilCheck x | fieldAddr _ x _ | field _ x _ | extract x _ =>
    rw [hop] at h
    simp only [Op.operands] at h
    simp only [h x (by simp)]
  | _ => rfl

/-! ### The heap -/
variable {bl' : Nat → Blk}
theorem rowsOf_bl {sz : Nat} {c : Cell} (h : ∀ k ∈ refsC c, bl' k = bl k) : rowsOf bl' sz c = rowsOf bl sz c := by
  cases c with
  | sl hd n lo len => simp only [rowsOf, h hd (by simp [refsC])]
  | sc v => unfold rowsOf; split <;> first | rfl | (simp_all; done)
  | _ => rfl
theorem lenOf_bl {c : Cell} (h : ∀ k ∈ refsC c, bl' k = bl k) : lenOf bl' c = lenOf bl c := by
  cases c with
  | mp hd => simp only [lenOf, h hd (by simp [refsC])]
  | sc v => unfold lenOf; split <;> first | rfl | (simp_all; done)
  | _ => rfl
theorem rdPtr_bl {n : Nat} {c : Cell} (h : ∀ k ∈ refsC c, bl' k = bl k) : rdPtr bl' n c = rdPtr bl n c := by
  cases c with
  | bp hd off => simp only [rdPtr, h hd (by simp [refsC])]
  | ep a sz i off => simp only [rdPtr, rowsOf_bl (c := a) (fun k hk => h k (by simpa [refsC] using hk))]
  | _ => rfl
theorem wrPtr_bl {v : List Cell} {c : Cell} (h : ∀ k ∈ refsC c, bl' k = bl k) : wrPtr bl' v c = wrPtr bl v c := by
  cases c with
  | bp hd off => simp only [wrPtr, h hd (by simp [refsC])]
  | ep a sz i off =>
    cases a with
    | sl hd n lo len => simp only [wrPtr, h hd (by simp [refsC])]
    | _ => rfl
  | _ => rfl
theorem sliceA_bl {sz : Nat} {c : Cell} {lo hi mx : Option AV} (h : ∀ k ∈ refsC c, bl' k = bl k) : sliceA bl' sz c lo hi mx = sliceA bl sz c lo hi mx := by
  unfold sliceA
  rw [rowsOf_bl h, lenOf_bl h]

variable {nw' : Nat} {v : AV} {d : Option (Nat × Blk)}
theorem appendA_bl {sz bytes : Nat} {s : Cell} {new : List (List Cell)} (hl : ∀ k ∈ refsC s, bl' k = bl k) (hn : ∀ b, d = some (nw, b) → nw' = nw) (h : appendA nw bl sz bytes s new = some (v, d)) : appendA nw' bl' sz bytes s new = some (v, d) := by
  have key : ∀ t : Cell, t = .e0 ∨ t = .sc (.slice none 0 0) → appendA nw bl sz bytes t new = some (v, d) → appendA nw' bl' sz bytes t new = some (v, d) := by
    intro t ht h
    rcases ht with rfl | rfl <;>
    · simp only [appendA] at h ⊢
      split at h
      · rename_i he; rw [if_pos he]; exact h
      · rename_i he
        rw [if_neg he]
        split at h
        · rename_i hle
          rw [if_pos hle]
          injection h with h; injection h with h1 h2
          have e := hn _ h2.symm
          rw [e, ← h1, ← h2]
        · cases h
  cases s with
  | sl hd n lo len => simp only [appendA, hl hd (by simp [refsC])] at h ⊢; exact h
  | e0 => exact key _ (.inl rfl) h
  | sc u =>
    by_cases hu : u = .slice none 0 0
    · subst hu; exact key _ (.inr rfl) h
    · have : appendA nw bl sz bytes (.sc u) new = none := by
        unfold appendA
        split <;> split <;> first | rfl | (simp_all; done)
      rw [this] at h; cases h
  | _ => simp [appendA] at h

theorem cell_refs {x : AV} {c : Cell} (h : x.cell = some c) : refsV x = refsC c := by
  cases x with
  | one c' => simp only [AV.cell] at h; injection h with h; subst h; rfl
  | _ => simp [AV.cell] at h

theorem aopBuiltin_bl {c : Call} {b : Builtin} (hop : o.op = .call c) (hb : c.callee = .builtin b) (hl : ∀ k ∈ looks env o, bl' k = bl k) (hn : ∀ b, d = some (nw, b) → nw' = nw) (h : aopBuiltin P nw bl env o c b = some (v, d)) :
    aopBuiltin P nw' bl' env o c b = some (v, d) := by
  have hk : ∀ x ∈ c.args.toList, ∀ q, (evo env x).cell = some q → ∀ k ∈ refsC q, bl' k = bl k := by
    intro x hx q hq k hk
    apply hl
    unfold looks
    rw [hop]
    obtain ⟨callee, args, ats⟩ := c
    simp only at hb
    subst hb
    simp only [List.mem_flatMap]
    exact ⟨x, hx, by rw [cell_refs hq]; exact hk⟩
  cases b with
  | len =>
    dsimp only [aopBuiltin] at h ⊢
    split at h
    · rename_i x hx
      split at h
      · rename_i u hu; exact h
      · rename_i hd hu
        rw [lenOf_bl (hk x (by rw [hx]; simp) _ hu)]
        exact h
      · rename_i q h1 h2 hq
        rw [lenOf_bl (hk x (by rw [hx]; simp) _ hq)]
        exact h
      · cases h
    · cases h
  | append =>
    dsimp only [aopBuiltin] at h ⊢
    split at h
    · rename_i s x t t' hx ht
      split at h
      · rename_i htt
        rw [if_pos htt]
        split at h
        · rename_i e sc xc h1 h2 h3
          split at h
          · rename_i i hi
            rw [rowsOf_bl (hk x (by rw [hx]; simp) _ h3)]
            split at h
            · split at h
              · split at h
                · rename_i hc
                  rw [if_pos hc]
                  exact appendA_bl (hk s (by rw [hx]; simp) _ h2) hn h
                · cases h
              · cases h
            · cases h
          · cases h
        · cases h
      · cases h
    · cases h
  | _ => exact h


theorem entsOf_bl {c : Cell} (h : ∀ k ∈ refsC c, bl' k = bl k) : entsOf bl' c = entsOf bl c := by
  cases c with
  | mp hd => simp only [entsOf, h hd (by simp [refsC])]
  | sc v => unfold entsOf; split <;> first | rfl | (simp_all; done)
  | _ => rfl
theorem lookupA_bl {t : TypeId} {c : Cell} {k : Value} {ok : Bool} (h : ∀ k ∈ refsC c, bl' k = bl k) : lookupA P bl' t c k ok = lookupA P bl t c k ok := by
  unfold lookupA
  rw [entsOf_bl h]
theorem updateA_bl {t : TypeId} {c : Cell} {k : Value} {x : AV} (h : ∀ k ∈ refsC c, bl' k = bl k) : updateA P bl' t c k x = updateA P bl t c k x := by
  unfold updateA
  cases P.underlying t with
  | none => rfl
  | some d => cases d <;> first | rfl | (cases c <;> first | rfl | ((first | (rename_i q; simp only [h q (by simp [refsC])]; done) | (rename_i q _; simp only [h q (by simp [refsC])]; done))))
theorem entryA_bl {t : TypeId} {c : Cell} {k : Value} (h : ∀ k ∈ refsC c, bl' k = bl k) : entryA P bl' t c k = entryA P bl t c k := by
  unfold entryA
  cases P.underlying t with
  | none => rfl
  | some d => cases d <;> first | rfl | (cases c <;> first | rfl | ((first | (rename_i q; simp only [h q (by simp [refsC])]; done) | (rename_i q _; simp only [h q (by simp [refsC])]; done))))
theorem entryStoreA_bl {c : Cell} {s : Option Int} {x : AV} (h : ∀ k ∈ refsC c, bl' k = bl k) : entryStoreA bl' c s x = entryStoreA bl c s x := by
  unfold entryStoreA
  cases s with
  | none => cases c <;> rfl
  | some i => cases c <;> first | rfl | ((first | (rename_i q; simp only [h q (by simp [refsC])]; done) | (rename_i q _; simp only [h q (by simp [refsC])]; done)))
/-- An operation looks at its operands' blocks alone; a new block's handle counts where one is laid. -/
theorem aop_bl (hl : ∀ k ∈ looks env o, bl' k = bl k) (hn : ∀ b, d = some (nw, b) → nw' = nw) (h : aop P nw bl env o = some (v, d)) : aop P nw' bl' env o = some (v, d) := by
  have new : ∀ {α : Type} {x : Option α} {f : α → AV} {g : α → Blk}, (x.map fun a => (f a, some (nw, g a))) = some (v, d) → nw' = nw := by
    intro α x f g hx
    obtain ⟨a, _, he⟩ := Option.map_eq_some_iff.1 hx
    injection he with h1 h2
    exact hn _ h2.symm
  unfold aop at h ⊢
  cases hop : o.op with
  | call c =>
    rw [hop] at h
    simp only at h ⊢
    split at h
    · rename_i b hb
      exact aopBuiltin_bl hop hb hl hn h
    · cases h
  | alloc e =>
    rw [hop] at h
    simp only at h ⊢
    obtain ⟨z, hz, he⟩ := Option.map_eq_some_iff.1 h
    injection he with h1 h2
    have e' := hn _ h2.symm
    rw [hz, e', ← h1, ← h2]; rfl
  | box t x =>
    rw [hop] at h
    simp only at h ⊢
    obtain ⟨z, hz, he⟩ := Option.map_eq_some_iff.1 h
    injection he with h1 h2
    have e' := hn _ h2.symm
    rw [hz, e', ← h1, ← h2]; rfl
  | buildSlice t n ps =>
    rw [hop] at h
    simp only at h ⊢
    split at h
    · split at h
      · split at h
        · obtain ⟨z, hz, he⟩ := Option.map_eq_some_iff.1 h
          injection he with h1 h2
          have e' := hn _ h2.symm
          rename_i hc
          rw [if_pos hc, hz, e', ← h1, ← h2]; rfl
        · cases h
      · cases h
    · cases h
  | makeMap t r =>
    rw [hop] at h
    simp only at h ⊢
    split at h
    · injection h with h; injection h with h1 h2
      have e' := hn _ h2.symm
      rw [e', ← h1, ← h2]
    · cases h
  | makeSlice t l c =>
    rw [hop] at h
    simp only at h ⊢
    split at h
    · split at h
      · split at h
        · injection h with h; injection h with h1 h2
          have e' := hn _ h2.symm
          rename_i hc
          rw [if_pos hc, e', ← h1, ← h2]
        · cases h
      · cases h
    · cases h
  | load t x =>
    rw [hop] at h
    simp only at h ⊢
    split at h
    · rename_i p hp
      have hk : ∀ k ∈ refsC p, bl' k = bl k := fun k hk => hl k (by unfold looks; rw [hop]; simp only; rw [cell_refs hp]; exact hk)
      simp only [rdPtr_bl hk]
      exact h
    · cases h
  | store t x y =>
    rw [hop] at h
    simp only at h ⊢
    split at h
    · rename_i p cs hp hcs
      have hk : ∀ k ∈ refsC p, bl' k = bl k := fun k hk => hl k (by unfold looks; rw [hop]; simp only; rw [cell_refs hp]; exact hk)
      simp only [wrPtr_bl hk]
      exact h
    · cases h
  | slice t x lo hi mx =>
    rw [hop] at h
    simp only at h ⊢
    split at h
    · rename_i e c h1 hp
      have hk : ∀ k ∈ refsC c, bl' k = bl k := fun k hk => hl k (by unfold looks; rw [hop]; simp only; rw [cell_refs hp]; exact hk)
      simp only [sliceA_bl hk]
      exact h
    · cases h
  | indexAddr t x y =>
    rw [hop] at h
    simp only at h ⊢
    split at h
    · rename_i e c i h1 hp h3
      have hk : ∀ k ∈ refsC c, bl' k = bl k := fun k hk => hl k (by unfold looks; rw [hop]; simp only; rw [cell_refs hp]; exact hk)
      simp only [lenOf_bl hk, rowsOf_bl hk]
      exact h
    · exact h
    · cases h
  | lookup t x y ok =>
    rw [hop] at h
    simp only at h ⊢
    split at h
    · rename_i m k hp hk2
      have hk : ∀ k ∈ refsC m, bl' k = bl k := fun k hk => hl k (by unfold looks; rw [hop]; simp only; rw [cell_refs hp]; exact hk)
      simp only [lookupA_bl hk]
      exact h
    · cases h
  | mapUpdate t x y z =>
    rw [hop] at h
    simp only at h ⊢
    split at h
    · rename_i m k hp hk2
      have hk : ∀ k ∈ refsC m, bl' k = bl k := fun k hk => hl k (by unfold looks; rw [hop]; simp only; rw [cell_refs hp]; exact hk)
      simp only [updateA_bl hk]
      exact h
    · cases h
  | insert t x y z =>
    rw [hop] at h
    simp only at h ⊢
    split at h
    · rename_i m k hp hk2
      have hk : ∀ k ∈ refsC m, bl' k = bl k := fun k hk => hl k (by unfold looks; rw [hop]; simp only; rw [cell_refs hp]; exact hk)
      simp only [updateA_bl hk]
      exact h
    · cases h
  | mapEntry t x y =>
    rw [hop] at h
    simp only at h ⊢
    split at h
    · rename_i m k hp hk2
      have hk : ∀ k ∈ refsC m, bl' k = bl k := fun k hk => hl k (by unfold looks; rw [hop]; simp only; rw [cell_refs hp]; exact hk)
      simp only [entryA_bl hk]
      exact h
    · cases h
  | entryStore t x y z =>
    rw [hop] at h
    simp only at h ⊢
    split at h
    · rename_i m hp
      have hk : ∀ k ∈ refsC m, bl' k = bl k := fun k hk => hl k (by unfold looks; rw [hop]; simp only; rw [cell_refs hp]; exact hk)
      simp only [entryStoreA_bl hk]
      exact h
    · cases h
  | _ => rw [hop] at h; exact h

end
end Go.AM

namespace Go.AM

/-! ### The last one -/
def lastOf (p : Nat → Bool) : Nat → Option Nat
  | 0 => none
  | n + 1 => if p n then some n else lastOf p n
theorem lastOf_congr {p q : Nat → Bool} : ∀ {n : Nat}, (∀ k, k < n → p k = q k) → lastOf p n = lastOf q n := by
  intro n
  induction n with
  | zero => intro _; rfl
  | succ n ih => intro h; simp only [lastOf, h n (by omega), ih (fun k hk => h k (by omega))]
theorem lastOf_le {p : Nat → Bool} {i : Nat} : ∀ {n : Nat}, i ≤ n → (∀ k, i ≤ k → k < n → p k = false) → lastOf p n = lastOf p i := by
  intro n
  induction n with
  | zero => intro h _; have : i = 0 := by omega
            rw [this]
  | succ n ih =>
    intro h hp
    rcases Nat.lt_or_ge n i with h1 | h1
    · have : i = n + 1 := by omega
      rw [this]
    · simp only [lastOf, hp n h1 (by omega), Bool.false_eq_true, if_false]
      exact ih h1 (fun k h2 h3 => hp k h2 (by omega))
theorem lastOf_at {p : Nat → Bool} {i n : Nat} (hi : i < n) (hp : p i = true) (h : ∀ k, i < k → k < n → p k = false) : lastOf p n = some i := by
  rw [lastOf_le (i := i + 1) hi (fun k h1 h2 => h k h1 h2)]
  simp [lastOf, hp]
theorem lastOf_some {p : Nat → Bool} {k : Nat} : ∀ {n : Nat}, lastOf p n = some k → k < n ∧ p k = true := by
  intro n
  induction n with
  | zero => intro h; cases h
  | succ n ih =>
    intro h
    simp only [lastOf] at h
    split at h
    · injection h with h; subst h; exact ⟨by omega, by assumption⟩
    · have := ih h; exact ⟨by omega, this.2⟩

/-! ### What stands before -/
/-- A set that holds, with an operation, all that it comes after. -/
def Closed (ops : Array Oper) (S : Nat → Bool) : Prop := ∀ (j : Nat) (o : Oper), S j = true → ops[j]? = some o → ∀ e ∈ o.after, Region.binds .any e = true → S e.on = true

theorem foldl_bits {acc : Array Nat} {i : Nat} : ∀ {es : List Edge} {s : Nat}, (es.foldl (fun s e => if Region.binds .any e then s ||| 2 ^ e.on ||| acc.getD e.on 0 else s) s).testBit i = true →
    s.testBit i = true ∨ ∃ e ∈ es, Region.binds .any e = true ∧ (i = e.on ∨ (acc.getD e.on 0).testBit i = true) := by
  intro es
  induction es with
  | nil => intro s h; exact .inl h
  | cons e es ih =>
    intro s h
    rw [List.foldl_cons] at h
    rcases ih h with h1 | ⟨e', he', h2, h3⟩
    · by_cases hb : Region.binds .any e = true
      · rw [if_pos hb] at h1
        rw [Nat.testBit_or, Nat.testBit_or] at h1
        simp only [Bool.or_eq_true] at h1
        rcases h1 with (h1 | h1) | h1
        · exact .inl h1
        · rw [Nat.testBit_two_pow] at h1
          exact .inr ⟨e, by simp, hb, .inl (by simpa using h1 : e.on = i).symm⟩
        · exact .inr ⟨e, by simp, hb, .inr h1⟩
      · rw [if_neg hb] at h1
        exact .inl h1
    · exact .inr ⟨e', by simp [he'], h2, h3⟩

theorem before_closed {ops : Array Oper} {S : Nat → Bool} (hS : Closed ops S) {i j : Nat} (hb : ((Region.before ops).getD j 0).testBit i = true) (hj : S j = true) : S i = true := by
  have key : ∀ (l2 l1 : List Oper) (acc : Array Nat), ops.toList = l1 ++ l2 → acc.size = l1.length → (∀ j i, (acc.getD j 0).testBit i = true → S j = true → S i = true) →
      ∀ j i, ((l2.foldl (fun acc o => acc.push (o.after.foldl (fun s e => if Region.binds .any e then s ||| 2 ^ e.on ||| acc.getD e.on 0 else s) 0)) acc).getD j 0).testBit i = true → S j = true → S i = true := by
    intro l2
    induction l2 with
    | nil => intro l1 acc _ _ h j i hb hj; exact h j i hb hj
    | cons o l2 ih =>
      intro l1 acc hl hsz h
      refine ih (l1 ++ [o]) _ (by simp [hl]) (by simp [hsz]) (fun j i hb hj => ?_)
      rw [Array.getD_eq_getD_getElem?, Array.getElem?_push] at hb
      split at hb
      · rename_i hjs
        simp only [Option.getD_some] at hb
        rw [← Array.foldl_toList] at hb
        rcases foldl_bits hb with h0 | ⟨e, he, hbe, h3⟩
        · simp at h0
        · have ho : ops[j]? = some o := by
            rw [← Array.getElem?_toList, hl, hjs, hsz]
            simp
          have hse := hS j o hj ho e (by simpa using he) hbe
          rcases h3 with rfl | h3
          · exact hse
          · exact h _ _ h3 hse
      · rw [← Array.getD_eq_getD_getElem?] at hb
        exact h j i hb hj
  have := key ops.toList [] #[] (by simp) rfl (fun j i hb hj => by simp [Array.getD] at hb) j i
  refine this ?_ hj
  unfold Region.before at hb
  rw [← Array.foldl_toList] at hb
  exact hb

/-! ### The trace -/
structure Trace (P : Program) (call : CallFn) (ops : Array Oper) where
  st : Nat → Env × AH
  ev : Nat → Option Evt
  step : ∀ (k : Nat) (o : Oper), ops[k]? = some o → stepD P call ops o (st k).1 (st k).2 = some ((st (k + 1)).1, (st (k + 1)).2, ev k)
  ord : ∀ (i j : Nat) (a b : Evt), i < j → j < ops.size → ev i = some a → ev j = some b → a.conf b = true → ((Region.before ops).getD j 0).testBit i = true

theorem ordOk_spec {bits : Array Nat} : ∀ {es : List (Nat × Evt)}, ordOk bits es = true → es.Pairwise fun a b => a.2.conf b.2 = true → (bits.getD b.1 0).testBit a.1 = true := by
  intro es
  induction es with
  | nil => intro _; exact .nil
  | cons e es ih =>
    intro h
    simp only [ordOk, Bool.and_eq_true, List.all_eq_true, Bool.or_eq_true, Bool.not_eq_true'] at h
    refine .cons (fun d hd hc => ?_) (ih h.2)
    rcases h.1 d hd with h1 | h1
    · rw [hc] at h1; cases h1
    · exact h1

theorem aopsD_trace {P : Program} {call : CallFn} {ops : Array Oper} {bits : Array Nat} : ∀ (m i : Nat), i + m = ops.size → ∀ (env env' : Env) (H H' : AH) (es : List (Nat × Evt)), aopsD P call ops i (ops.toList.drop i) env H = some (env', H', es) →
    (es.Pairwise fun a b => a.2.conf b.2 = true → (bits.getD b.1 0).testBit a.1 = true) →
    ∃ (st : Nat → Env × AH) (ev : Nat → Option Evt), st i = (env, H) ∧ st ops.size = (env', H') ∧
      (∀ (k : Nat) (o : Oper), i ≤ k → ops[k]? = some o → stepD P call ops o (st k).1 (st k).2 = some ((st (k + 1)).1, (st (k + 1)).2, ev k)) ∧
      (∀ k b, i ≤ k → k < ops.size → ev k = some b → (k, b) ∈ es) ∧
      (∀ (k l : Nat) (a b : Evt), i ≤ k → k < l → l < ops.size → ev k = some a → ev l = some b → a.conf b = true → (bits.getD l 0).testBit k = true) := by
  intro m
  induction m with
  | zero =>
    intro i hi env env' H H' es h _
    have : ops.toList.drop i = [] := by apply List.drop_eq_nil_of_le; simp; omega
    rw [this] at h
    simp only [aopsD] at h
    injection h with h; injection h with h1 h2; injection h2 with h2 h3
    subst h1 h2
    have hi' : i = ops.size := by omega
    refine ⟨fun _ => (env, H), fun _ => none, rfl, rfl, fun k o hk ho => ?_, fun k b h1 h2 => by omega, fun k l a b h1 h2 h3 => by omega⟩
    have := (Array.getElem?_eq_some_iff.1 ho).1
    omega
  | succ m ih =>
    intro i hi env env' H H' es h hp
    have hlt : i < ops.size := by omega
    have hdrop : ops.toList.drop i = ops[i] :: ops.toList.drop (i + 1) := by
      rw [List.drop_eq_getElem_cons (by simpa using hlt)]; simp
    rw [hdrop] at h
    simp only [aopsD] at h
    split at h
    · rename_i env1 H1 e hs
      split at h
      · rename_i env2 H2 es2 hr
        injection h with h; injection h with h1 h2; injection h2 with h2 h3
        subst h1 h2
        have hp2 : es2.Pairwise fun a b => a.2.conf b.2 = true → (bits.getD b.1 0).testBit a.1 = true := by
          cases e with
          | none => simp only at h3; rw [h3]; exact hp
          | some e => simp only at h3; rw [← h3] at hp; exact (List.pairwise_cons.1 hp).2
        obtain ⟨st, ev, g1, g2, g3, g4, g5⟩ := ih (i + 1) (by omega) env1 env2 H1 H2 es2 hr hp2
        have hsub : ∀ x ∈ es2, x ∈ es := by
          intro x hx
          cases e with
          | none => simp only at h3; rw [← h3]; exact hx
          | some e => simp only at h3; rw [← h3]; exact List.mem_cons_of_mem _ hx
        have ne : ∀ k, i < k → (if k = i then (env, H) else st k) = st k := fun k hk => if_neg (by omega)
        have ne' : ∀ k, i < k → (if k = i then e else ev k) = ev k := fun k hk => if_neg (by omega)
        refine ⟨fun k => if k = i then (env, H) else st k, fun k => if k = i then e else ev k, if_pos rfl, ?_, fun k o hk ho => ?_, fun k b h1 h2 h4 => ?_, fun k l a b h1 h2 h4 ha hb hc => ?_⟩
        · exact (ne _ hlt).trans g2
        · simp only [ne (k + 1) (by omega)]
          by_cases hki : k = i
          · subst hki
            simp only [if_true]
            rw [g1]
            have : ops[k] = o := by rw [Array.getElem?_eq_getElem hlt] at ho; injection ho
            rw [← this]; exact hs
          · simp only [ne k (by omega), ne' k (by omega)]
            exact g3 k o (by omega) ho
        · by_cases hki : k = i
          · subst hki
            simp only [if_true] at h4
            subst h4
            simp only at h3
            rw [← h3]; simp
          · simp only [ne' k (by omega)] at h4
            exact hsub _ (g4 k b (by omega) h2 h4)
        · simp only [ne' l (by omega)] at hb
          by_cases hki : k = i
          · subst hki
            simp only [if_true] at ha
            subst ha
            simp only at h3
            rw [← h3] at hp
            exact (List.pairwise_cons.1 hp).1 (l, b) (g4 l b (by omega) h4 hb) hc
          · simp only [ne' k (by omega)] at ha
            exact g5 k l a b (by omega) h2 h4 ha hb hc
      · cases h
    · cases h

theorem trace_of {P : Program} {call : CallFn} {ops : Array Oper} {env env' : Env} {H H' : AH} {es : List (Nat × Evt)} (h : aopsD P call ops 0 ops.toList env H = some (env', H', es)) (ho : ordOk (Region.before ops) es = true) :
    ∃ T : Trace P call ops, T.st 0 = (env, H) ∧ T.st ops.size = (env', H') := by
  obtain ⟨st, ev, g1, g2, g3, _, g5⟩ := aopsD_trace (ops := ops) (bits := Region.before ops) ops.size 0 (by omega) env env' H H' es (by simpa using h) (ordOk_spec ho)
  exact ⟨⟨st, ev, fun k o hk => g3 k o (by omega) hk, fun i j a b h1 h2 h3 h4 h5 => g5 i j a b (by omega) h1 h2 h3 h4 h5⟩, g1, g2⟩

end Go.AM

namespace Go.AM

theorem stepD_cases {P : Program} {call : CallFn} {ops : Array Oper} {o : Oper} {env env' : Env} {H H' : AH} {ev : Option Evt} (h : stepD P call ops o env H = some (env', H', ev)) :
    (wantedA ops env o = some false ∧ env' = putE env o.dst .und ∧ H' = H ∧ ev = none) ∨
    (∃ v d, wantedA ops env o = some true ∧ step1 P call env H o = some (v, d) ∧ env' = putE env o.dst v ∧ H' = d.app H ∧ ev = some (evt env o H d)) := by
  unfold stepD at h
  split at h
  · rename_i hw
    split at h
    · rename_i v d hs
      injection h with h; injection h with h1 h2; injection h2 with h2 h3
      exact .inr ⟨v, d, hw, hs, h1.symm, h2.symm, h3.symm⟩
    · cases h
  · rename_i hw
    injection h with h; injection h with h1 h2; injection h2 with h2 h3
    exact .inl ⟨hw, h1.symm, h2.symm, h3.symm⟩
  · cases h

def dstAt (ops : Array Oper) (k : Nat) : Option Nat := (ops[k]?).bind (·.dst)
section
variable {P : Program} {call : CallFn} {ops : Array Oper}
def wrs (T : Trace P call ops) (h k : Nat) : Bool := match T.ev k with
  | some e => e.wr == some h || e.all
  | none => false
def EnvS (T : Trace P call ops) (S : Nat → Bool) : Env := fun t => match lastOf (fun k => S k && (dstAt ops k == some t)) ops.size with
  | some k => (T.st (k + 1)).1 t
  | none => (T.st 0).1 t
def BlS (T : Trace P call ops) (S : Nat → Bool) : Nat → Blk := fun h => match lastOf (fun k => S k && wrs T h k) ops.size with
  | some k => (T.st (k + 1)).2.bl h
  | none => (T.st 0).2.bl h

variable (T : Trace P call ops)
theorem st_other_env {k t : Nat} (hk : k < ops.size) (h : (dstAt ops k == some t) = false) : (T.st (k + 1)).1 t = (T.st k).1 t := by
  have hs := T.step k ops[k] (Array.getElem?_eq_getElem hk)
  have hd : ops[k].dst ≠ some t := by
    intro e
    simp [dstAt, Array.getElem?_eq_getElem hk, e] at h
  have put : ∀ v, putE (T.st k).1 ops[k].dst v t = (T.st k).1 t := by
    intro v
    cases hd' : ops[k].dst with
    | none => rfl
    | some d => exact upd_ne _ _ (fun e => hd (by rw [hd', e]))
  rcases stepD_cases hs with ⟨_, h1, _, _⟩ | ⟨v, d, _, _, h1, _, _⟩
  · rw [h1]; exact put _
  · rw [h1]; exact put _
theorem st_other_bl {k h : Nat} (hk : k < ops.size) (hw : wrs T h k = false) : (T.st (k + 1)).2.bl h = (T.st k).2.bl h := by
  have hs := T.step k ops[k] (Array.getElem?_eq_getElem hk)
  rcases stepD_cases hs with ⟨_, _, h1, _⟩ | ⟨v, d, _, _, _, h1, h2⟩
  · rw [h1]
  · rw [h1]
    unfold wrs at hw
    rw [h2] at hw
    simp only [Bool.or_eq_false_iff] at hw
    obtain ⟨hw1, hw2⟩ := hw
    cases d with
    | op d =>
      cases d with
      | none => rfl
      | some p =>
        obtain ⟨h', b⟩ := p
        simp only [evt, Option.map_some] at hw1
        have : h' ≠ h := by intro e; subst e; simp at hw1
        simp only [Del.app, AH.app]
        exact upd_ne _ _ (Ne.symm this)
    | call e =>
      cases e with
      | clean => rfl
      | made b =>
        simp only [evt] at hw1
        have : (T.st k).2.nx ≠ h := by intro e; subst e; simp at hw1
        simp only [Del.app, Eff.app, AH.app]
        exact upd_ne _ _ (Ne.symm this)
      | full H' => simp [evt] at hw2

theorem st_env : ∀ {i t : Nat}, i ≤ ops.size → (T.st i).1 t = match lastOf (fun k => dstAt ops k == some t) i with
    | some k => (T.st (k + 1)).1 t
    | none => (T.st 0).1 t := by
  intro i t
  induction i with
  | zero => intro _; rfl
  | succ i ih =>
    intro hi
    simp only [lastOf]
    by_cases hd : (dstAt ops i == some t) = true
    · rw [if_pos hd]
    · rw [if_neg hd, st_other_env T hi (by simpa using hd)]; exact ih (by omega)
theorem st_bl : ∀ {i h : Nat}, i ≤ ops.size → (T.st i).2.bl h = match lastOf (fun k => wrs T h k) i with
    | some k => (T.st (k + 1)).2.bl h
    | none => (T.st 0).2.bl h := by
  intro i h
  induction i with
  | zero => intro _; rfl
  | succ i ih =>
    intro hi
    simp only [lastOf]
    by_cases hd : wrs T h i = true
    · rw [if_pos hd]
    · rw [if_neg hd, st_other_bl T hi (by simpa using hd)]; exact ih (by omega)

variable {S S' : Nat → Bool} {i : Nat}
theorem lastOf_at' {p : Nat → Bool} (hi : i ≤ ops.size) (h1 : ∀ k, k < i → p k = true → S k = true) (h2 : ∀ k, i ≤ k → k < ops.size → p k = true → S k = false) :
    lastOf (fun k => S k && p k) ops.size = lastOf p i := by
  rw [lastOf_le (i := i) hi (fun k h3 h4 => by
    cases hp : p k with
    | false => simp
    | true => simp [h2 k h3 h4 hp])]
  refine lastOf_congr (fun k hk => ?_)
  cases hp : p k with
  | false => simp
  | true => simp [h1 k hk hp]

theorem bl_at {h : Nat} (hi : i ≤ ops.size) (h1 : ∀ k, k < i → wrs T h k = true → S k = true) (h2 : ∀ k, i ≤ k → k < ops.size → wrs T h k = true → S k = false) : BlS T S h = (T.st i).2.bl h := by
  unfold BlS
  rw [lastOf_at' hi h1 h2, st_bl T hi]
theorem env_at {t : Nat} (hi : i ≤ ops.size) (h1 : ∀ k, k < i → dstAt ops k = some t → S k = true) (h2 : ∀ k, i ≤ k → k < ops.size → dstAt ops k = some t → S k = false) : EnvS T S t = (T.st i).1 t := by
  unfold EnvS
  rw [lastOf_at' (p := fun k => dstAt ops k == some t) hi (fun k hk hp => h1 k hk (by simpa using hp)) (fun k hk hk' hp => h2 k hk hk' (by simpa using hp)), st_env T hi]

/-- One more has come up. -/
theorem lastOf_more {p : Nat → Bool} (hi : i < ops.size) (hSS : ∀ k, S' k = (S k || decide (k = i))) (h2 : ∀ k, i < k → k < ops.size → p k = true → S k = false) :
    lastOf (fun k => S' k && p k) ops.size = if p i then some i else lastOf (fun k => S k && p k) ops.size := by
  split
  · rename_i hp
    refine lastOf_at hi (by simp [hSS, hp]) (fun k h3 h4 => ?_)
    cases hpk : p k with
    | false => simp
    | true =>
      have : k ≠ i := by omega
      simp [hSS, h2 k h3 h4 hpk, this]
  · rename_i hp
    refine lastOf_congr (fun k hk => ?_)
    by_cases hki : k = i
    · subst hki; simp [hp]
    · simp [hSS, hki]
theorem bl_more (hi : i < ops.size) (hSS : ∀ k, S' k = (S k || decide (k = i))) {h : Nat} (h2 : ∀ k, i < k → k < ops.size → wrs T h k = true → S k = false) :
    BlS T S' h = if wrs T h i then (T.st (i + 1)).2.bl h else BlS T S h := by
  unfold BlS
  rw [lastOf_more hi hSS h2]
  by_cases hw : wrs T h i = true
  · rw [if_pos hw, if_pos hw]
  · rw [if_neg hw, if_neg hw]
theorem bl_same (hSS : ∀ k, S' k = (S k || decide (k = i))) {h : Nat} (hw : wrs T h i = false) : BlS T S' h = BlS T S h := by
  unfold BlS
  have : lastOf (fun k => S' k && wrs T h k) ops.size = lastOf (fun k => S k && wrs T h k) ops.size := lastOf_congr (fun k _ => by
    by_cases hki : k = i
    · subst hki; simp [hw]
    · simp [hSS, hki])
  rw [this]

theorem names_spec (ht : tempOk ops = true) {j : Nat} {o : Oper} (ho : ops[j]? = some o) {t : Nat} (hn : t ∈ namesOf ops o) {k : Nat} (hk : dstAt ops k = some t) (hne : k ≠ j) :
    ((Region.before ops).getD (max k j) 0).testBit (min k j) = true := by
  unfold tempOk at ht
  obtain ⟨o', ho', hd⟩ := Option.bind_eq_some_iff.1 hk
  have mem : ∀ {j : Nat} {o : Oper}, ops[j]? = some o → (o, j) ∈ ops.toList.zipIdx := by
    intro j o ho
    rw [List.mem_zipIdx_iff_getElem?]
    simpa using ho
  have h1 := all_get ht (o, j) (mem ho)
  have h2 := all_get h1 t hn
  have h3 := all_get h2 (o', k) (mem ho')
  simp only [Bool.or_eq_true, bne_iff_ne, ne_eq, beq_iff_eq] at h3
  rcases h3 with (h3 | h3) | h3
  · exact absurd hd h3
  · exact absurd h3 hne
  · exact h3

/-- What is known of an operation that comes up now. -/
structure Now (ops : Array Oper) (S S' : Nat → Bool) (i : Nat) : Prop where
  cl : Closed ops S
  cl' : Closed ops S'
  out : S i = false
  more : ∀ k, S' k = (S k || decide (k = i))
variable {T}
theorem Now.earlier (N : Now ops S S' i) {k : Nat} (hne : k ≠ i) (hb : ((Region.before ops).getD i 0).testBit k = true) : S k = true := by
  have := before_closed N.cl' hb (by simp [N.more])
  rw [N.more] at this
  simpa [hne] using this
theorem Now.later (N : Now ops S S' i) {k : Nat} (hb : ((Region.before ops).getD k 0).testBit i = true) : S k = false := by
  cases hk : S k with
  | false => rfl
  | true =>
    have := before_closed N.cl hb hk
    rw [N.out] at this; cases this

theorem Now.env (N : Now ops S S' i) (ht : tempOk ops = true) {o : Oper} (ho : ops[i]? = some o) {t : Nat} (hn : t ∈ namesOf ops o) : EnvS T S t = (T.st i).1 t := by
  have hi := (Array.getElem?_eq_some_iff.1 ho).1
  refine env_at T (Nat.le_of_lt hi) (fun k hk hd => ?_) (fun k hk hk' hd => ?_)
  · have := names_spec ht ho hn hd (by omega)
    rw [Nat.max_eq_right (by omega), Nat.min_eq_left (by omega)] at this
    exact N.earlier (by omega) this
  · by_cases hki : k = i
    · subst hki; exact N.out
    · have := names_spec ht ho hn hd hki
      rw [Nat.max_eq_left (by omega), Nat.min_eq_right (by omega)] at this
      exact N.later this
theorem Now.env' (N : Now ops S S' i) (ht : tempOk ops = true) {o : Oper} (ho : ops[i]? = some o) {v : AV} (hv : (T.st (i + 1)).1 = putE (T.st i).1 o.dst v) : EnvS T S' = putE (EnvS T S) o.dst v := by
  have hi := (Array.getElem?_eq_some_iff.1 ho).1
  funext t
  have hda : dstAt ops i = o.dst := by simp [dstAt, ho]
  by_cases hd : o.dst = some t
  · have : lastOf (fun k => S' k && (dstAt ops k == some t)) ops.size = some i := by
      rw [lastOf_more (p := fun k => dstAt ops k == some t) hi N.more (fun k h1 h2 h3 => ?_)]
      · simp [hda, hd]
      · have := names_spec ht ho (t := t) (by unfold namesOf; simp [hd]) (k := k) (by simpa using h3) (by omega)
        rw [Nat.max_eq_left (by omega), Nat.min_eq_right (by omega)] at this
        exact N.later this
    unfold EnvS
    rw [this]
    simp only
    rw [hv, hd]
    simp only [putE, upd_same]
  · have h1 : putE (EnvS T S) o.dst v t = EnvS T S t := by
      cases hd' : o.dst with
      | none => rfl
      | some d => exact upd_ne _ _ (fun e => hd (by rw [hd', e]))
    rw [h1]
    unfold EnvS
    have : lastOf (fun k => S' k && (dstAt ops k == some t)) ops.size = lastOf (fun k => S k && (dstAt ops k == some t)) ops.size := lastOf_congr (fun k _ => by
      by_cases hki : k = i
      · subst hki
        have hb : (o.dst == some t) = false := by
          cases hx : o.dst with
          | none => rfl
          | some d => rw [hx] at hd; simp; exact fun e => hd (by rw [e])
        simp [hda, hb]
      · simp [N.more, hki])
    rw [this]

theorem wrs_iff {h k : Nat} : wrs T h k = true ↔ ∃ e, T.ev k = some e ∧ (e.wr = some h ∨ e.all = true) := by
  unfold wrs
  cases T.ev k with
  | none => simp
  | some e => simp

/-- Who wrote what this one looks at, or writes, has come up if it stands before; has not if it stands behind. -/
theorem Now.bl (N : Now ops S S' i) (hi : i < ops.size) {e : Evt} (he : T.ev i = some e) {h : Nat} (hh : h ∈ e.reads ∨ e.wr = some h) : BlS T S h = (T.st i).2.bl h := by
  have htouch : e.touch = true := by
    unfold Evt.touch
    rcases hh with hh | hh
    · have : e.reads.isEmpty = false := by cases hr : e.reads with | nil => rw [hr] at hh; cases hh | cons _ _ => rfl
      simp [this]
    · simp [hh]
  refine bl_at T (Nat.le_of_lt hi) (fun k hk hw => ?_) (fun k hk hk' hw => ?_)
  · obtain ⟨ek, hek, hw⟩ := wrs_iff.1 hw
    refine N.earlier (by omega) (T.ord k i ek e hk hi hek he ?_)
    unfold Evt.conf
    rcases hw with hw | hw
    · rcases hh with hh | hh <;> simp [hw, hh]
    · simp [hw, htouch]
  · by_cases hki : k = i
    · subst hki; exact N.out
    obtain ⟨ek, hek, hw⟩ := wrs_iff.1 hw
    refine N.later (T.ord i k e ek (by omega) hk' he hek ?_)
    unfold Evt.conf
    rcases hw with hw | hw
    · rcases hh with hh | hh <;> simp [hw, hh]
    · simp [hw, htouch]
theorem Now.bl_later (N : Now ops S S' i) {e : Evt} (he : T.ev i = some e) {h : Nat} (hh : e.wr = some h ∨ e.all = true) : ∀ k, i < k → k < ops.size → wrs T h k = true → S k = false := by
  intro k hk hk' hw
  obtain ⟨ek, hek, hw⟩ := wrs_iff.1 hw
  refine N.later (T.ord i k e ek hk hk' he hek ?_)
  unfold Evt.conf
  rcases hh with hh | hh
  · rcases hw with hw | hw
    · simp [hh, hw]
    · have : e.touch = true := by unfold Evt.touch; simp [hh]
      simp [hw, this]
  · have : ek.touch = true := by
      unfold Evt.touch
      rcases hw with hw | hw <;> simp [hw]
    simp [hh, this]
end
end Go.AM

namespace Go.AM

section
variable {P : Program} {call : CallFn} {ops : Array Oper}

/-- What is got out of an operation's walk that ends in one way alone. -/
theorem wpOpIn_some {F : Fence} (hF : Fine F) {n : Nat} {i : Nat} {K : Act → World → Prop} {a : Act} {w : World} (h : wpOpIn F n P ops (fun _ _ _ => False) i K a w) : ∃ a' w', K a' w' := by
  unfold wpOpIn at h
  split at h
  · exact ⟨_, _, h⟩
  · split at h
    · obtain ⟨_, h⟩ := h
      unfold Oper.uponIn at h
      split at h
      · exact ⟨_, _, h⟩
      · exact ⟨_, _, h⟩
      · exact ⟨_, _, h⟩
      · obtain ⟨_, h⟩ := h
        obtain ⟨e, w', fr, hR, _⟩ := h.2 [] (hF.room _)
        cases e with
        | returned v => exact ⟨_, _, hR⟩
        | panicked _ => exact hR.elim
        | outgrown => obtain ⟨_, _, hq⟩ := hR; exact hq.elim
      · obtain ⟨_, h⟩ := h
        obtain ⟨v, w', hR, _⟩ := h default [] (hF.room _)
        exact ⟨_, _, hR⟩
      · obtain ⟨_, h⟩ := h
        obtain ⟨e, w', hR, _⟩ := h.2 default [] (hF.room _)
        cases e with
        | returned v => exact ⟨_, _, hR⟩
        | panicked _ => exact hR.elim
        | outgrown => obtain ⟨_, _, hq⟩ := hR; exact hq.elim
      · exact h.elim
      · exact h.elim
    · exact ⟨_, _, h.2⟩

/-- The region in its text's order: what is known of each place in it. -/
structure Text (T : Trace P call ops) : Prop where
  sit : ∀ k, k ≤ ops.size → ∃ (V : View) (ts : Array Value), SitH V (T.st k).2 ∧ ER V (T.st k).1 ts
  nx : ∀ i j, i ≤ j → j ≤ ops.size → (T.st i).2.nx ≤ (T.st j).2.nx
  lo : ∀ i j, i ≤ j → j ≤ ops.size → (T.st j).2.lo ≤ (T.st i).2.lo

theorem text_of (hc : CallOk P call) {F : Fence} (hF : Fine F) (T : Trace P call ops) {V : View} {base : Nat} {a : Act} (S : Sit V (T.st 0).2 (T.st 0).1 F.round base a) (hd : ∀ o ∈ ops.toList, dstOk a.tmps.size o = true) : Text T := by
  have step : ∀ k, k < ops.size → ∀ (V : View) (a1 : Act), Sit V (T.st k).2 (T.st k).1 F.round base a1 → a1.tmps.size = a.tmps.size →
      ∃ (V' : View) (a' : Act), Sit V' (T.st (k + 1)).2 (T.st (k + 1)).1 F.round base a' ∧ a'.tmps.size = a.tmps.size ∧ (T.st k).2.nx ≤ (T.st (k + 1)).2.nx ∧ (T.st (k + 1)).2.lo ≤ (T.st k).2.lo := by
    intro k hk V a1 S1 hsz
    have ho := Array.getElem?_eq_getElem hk
    have h := stepD_wp hc hF (n := 0) (i := k) ho (Q := fun _ _ _ => False) (K := fun a' w' => ∃ V' : View, Sit V' (T.st (k + 1)).2 (T.st (k + 1)).1 F.round base a' ∧ a'.tmps.size = a.tmps.size ∧ (T.st k).2.nx ≤ (T.st (k + 1)).2.nx ∧ (T.st (k + 1)).2.lo ≤ (T.st k).2.lo) S1 (by rw [hsz]; exact hd _ (by simp)) (T.step k _ ho)
      (fun V' a' hst S' hs => ⟨V', S', hs.trans hsz, hst.nx, hst.lo⟩)
    obtain ⟨a', w', V', h1⟩ := wpOpIn_some hF h
    exact ⟨V', a', h1⟩
  have all : ∀ k, k ≤ ops.size → ∃ (V : View) (a1 : Act), Sit V (T.st k).2 (T.st k).1 F.round base a1 ∧ a1.tmps.size = a.tmps.size := by
    intro k
    induction k with
    | zero => intro _; exact ⟨V, a, S, rfl⟩
    | succ k ih =>
      intro hk
      obtain ⟨V1, a1, S1, h1⟩ := ih (by omega)
      obtain ⟨V2, a2, S2, h2, _⟩ := step k hk V1 a1 S1 h1
      exact ⟨V2, a2, S2, h2⟩
  have one : ∀ k, k < ops.size → (T.st k).2.nx ≤ (T.st (k + 1)).2.nx ∧ (T.st (k + 1)).2.lo ≤ (T.st k).2.lo := by
    intro k hk
    obtain ⟨V1, a1, S1, h1⟩ := all k (by omega)
    obtain ⟨V2, a2, S2, h2, h3⟩ := step k hk V1 a1 S1 h1
    exact h3
  refine ⟨fun k hk => ?_, fun i j hij hj => ?_, fun i j hij hj => ?_⟩
  · obtain ⟨V1, a1, S1, _⟩ := all k hk
    exact ⟨V1, a1.tmps, S1.toSitH, S1.er⟩
  · induction j with
    | zero => have : i = 0 := by omega
              rw [this]; exact Nat.le_refl _
    | succ j ih =>
      by_cases h : i = j + 1
      · rw [h]; exact Nat.le_refl _
      · exact Nat.le_trans (ih (by omega) (by omega)) (one j hj).1
  · induction j with
    | zero => have : i = 0 := by omega
              rw [this]; exact Nat.le_refl _
    | succ j ih =>
      by_cases h : i = j + 1
      · rw [h]; exact Nat.le_refl _
      · exact Nat.le_trans (one j hj).2 (ih (by omega) (by omega))

variable {T : Trace P call ops}
theorem Text.none (X : Text T) {k h : Nat} (hk : k ≤ ops.size) (hh : (T.st k).2.nx ≤ h) : (T.st k).2.bl h = .none := by
  obtain ⟨V, ts, S, _⟩ := X.sit k hk
  exact S.nx h hh
theorem Text.scopedE (X : Text T) {k : Nat} (hk : k ≤ ops.size) (t : Nat) : ScV (T.st k).2.bl ((T.st k).1 t) := by
  obtain ⟨V, ts, S, R⟩ := X.sit k hk
  rw [← S.bl]; exact (R t).inSc
theorem Text.scopedB (X : Text T) {k : Nat} (hk : k ≤ ops.size) (h : Nat) : ScB (T.st k).2.bl ((T.st k).2.bl h) := by
  obtain ⟨V, ts, S, R⟩ := X.sit k hk
  rw [← S.bl]; exact (S.hr.holds h).inSc

/-- What holds when the operations of S have come up. -/
structure DI (T : Trace P call ops) (F : Fence) (base N0 : Nat) (V0 : View) (S : Nat → Bool) (a : Act) (V : View) : Prop where
  bl : V.bl = BlS T S
  hr : HR V
  er : ER V (EnvS T S) a.tmps
  dr : DR V base a.defers
  rd : RdR V F.round
  sz : a.tmps.size = N0
  ext : Ext V0 V
  keep : ∀ h, h < (T.st ops.size).2.lo → V0.bl h ≠ .none → V.bl h = V0.bl h ∧ V.mu h = V0.mu h
  bd : ∃ M, ∀ h, M ≤ h → V.bl h = .none

variable {F : Fence} {base N0 : Nat} {V0 : View} {S S' : Nat → Bool} {i : Nat}

/-- The operation has come up: a new view. -/
theorem DI.next {a : Act} {V : View} (D : DI T F base N0 V0 S a V) (N : Now ops S S' i) (ht : tempOk ops = true) {o : Oper} (ho : ops[i]? = some o) (hd : dstOk N0 o = true) {v : AV} (hv : (T.st (i + 1)).1 = putE (T.st i).1 o.dst v)
    {V' : View} {v' : Value} (E : Ext V V') (hr : HR V') (hvr : VR V' v v') (hbl : V'.bl = BlS T S')
    (hk : ∀ h, h < (T.st ops.size).2.lo → V.bl h ≠ .none → V'.bl h = V.bl h ∧ V'.mu h = V.mu h) (hbd : ∃ M, ∀ h, M ≤ h → V'.bl h = .none) : DI T F base N0 V0 S' (a.put o.dst v') V' := by
  have hdst : ∀ d, o.dst = some d → d < a.tmps.size := by
    intro d he; unfold dstOk at hd; rw [he] at hd; rw [D.sz]; simpa using hd
  refine ⟨hbl, hr, ?_, ?_, D.rd.mono E, (put_size ..).trans D.sz, D.ext.trans E, fun h h1 h2 => ?_, hbd⟩
  · rw [N.env' ht ho hv]; exact (D.er.mono E).put hvr hdst
  · rw [put_defers]; exact D.dr.mono E
  · obtain ⟨h3, h4⟩ := D.keep h h1 h2
    obtain ⟨h5, h6⟩ := hk h h1 (by rw [h3]; exact h2)
    exact ⟨h5.trans h3, h6.trans h4⟩

/-- The temporaries that the operation names hold what they hold in the text's order. -/
theorem named {a : Act} {V : View} (D : DI T F base N0 V0 S a V) (N : Now ops S S' i) (ht : tempOk ops = true) {o : Oper} (ho : ops[i]? = some o) :
    ∃ env : Env, ER V env a.tmps ∧ (∀ x ∈ o.op.operands, evo env x = evo (T.st i).1 x) ∧ wantedA ops env o = wantedA ops (T.st i).1 o := by
  refine ⟨fun t => if t ∈ namesOf ops o then (T.st i).1 t else .bad, fun t => ?_, fun x hx => ?_, ?_⟩
  · simp only
    split
    · rename_i hn
      rw [← N.env ht ho hn]; exact D.er t
    · exact .bad _
  · cases x with
    | tmp t =>
      simp only [evo]
      rw [if_pos]
      unfold namesOf
      simp only [List.mem_append, List.mem_filterMap]
      exact .inl (.inr ⟨.tmp t, by simpa using hx, rfl⟩)
    | _ => rfl
  · unfold wantedA
    split
    · rfl
    · rename_i j want hg
      split
      · rename_i d hd
        have : d ∈ namesOf ops o := by
          unfold namesOf
          simp only [List.mem_append, hg, hd]
          exact .inr (by simp)
        simp only [if_pos this]
      · rfl
end
end Go.AM

namespace Go.AM
open Classical

section
variable {P : Program} {call : CallFn} {ops : Array Oper} {T : Trace P call ops} {F : Fence} {base N0 : Nat} {V0 : View} {S S' : Nat → Bool} {i : Nat}

theorem inv_upon (hF : Fine F) {n : Nat} {o : Oper} {a : Act} {next : Act → World → Prop} {Q : Exit → Act → World → Prop} {s : Sem Next} {w : World} {R : Ending → World → Prop} (h : InvOk F (n - 1) P s w R)
    (k : ∀ v' w', R (.returned v') w' → next (a.put o.dst v') w') (hp : ∀ c w', ¬ R (.panicked c) w') (ho : ∀ w', ¬ R .outgrown w') : o.uponIn F n P a next Q (s.run P w) := by
  rcases h with ⟨g, xs, hr, hg⟩ | ⟨l, g, ts, as, bd, hr, hg⟩
  · rw [hr]
    refine ⟨hF.le1, hg.mono (fun e w' he => ?_)⟩
    cases e with
    | returned v' => exact k v' w' he
    | panicked c => exact absurd he (hp c w')
    | outgrown => exact absurd he (ho w')
  · rw [hr]
    refine ⟨hF.le1, hg.mono (fun e w' he => ?_)⟩
    cases e with
    | returned v' => exact k v' w' he
    | panicked c => exact absurd he (hp c w')
    | outgrown => exact absurd he (ho w')

theorem drawn_op (hF : Fine F) {n : Nat} (X : Text T) {a : Act} {V : View} (D : DI T F base N0 V0 S a V) (N : Now ops S S' i) (ht : tempOk ops = true) {o : Oper} (ho : ops[i]? = some o) (hd : dstOk N0 o = true) {v : AV} {d : Option (Nat × Blk)}
    (ha : aop P (T.st i).2.nx (T.st i).2.bl (T.st i).1 o = some (v, d)) (hst1 : (T.st (i + 1)).1 = putE (T.st i).1 o.dst v) (hst2 : (T.st (i + 1)).2 = (T.st i).2.app d) (hev : T.ev i = some (evt (T.st i).1 o (T.st i).2 (.op d)))
    {env : Env} (R : ER V env a.tmps) (hx : ∀ x ∈ o.op.operands, evo env x = evo (T.st i).1 x)
    {K : Act → World → Prop} {Q : Exit → Act → World → Prop} (k : ∀ (a' : Act) (V' : View), DI T F base N0 V0 S' a' V' → K a' V'.w) : o.wpIn F n P a V.w K Q := by
  have hi := (Array.getElem?_eq_some_iff.1 ho).1
  obtain ⟨M, hM⟩ := D.bd
  have hlook : ∀ k ∈ looks (T.st i).1 o, V.bl k = (T.st i).2.bl k := fun k hk => by rw [D.bl]; exact N.bl hi hev (.inl hk)
  have hnw : ∃ nw', (∀ b, d = some ((T.st i).2.nx, b) → nw' = (T.st i).2.nx) ∧ V.bl nw' = .none := by
    by_cases hf : ∃ b, d = some ((T.st i).2.nx, b)
    · obtain ⟨b, hb⟩ := hf
      refine ⟨(T.st i).2.nx, fun _ _ => rfl, ?_⟩
      rw [D.bl, N.bl hi hev (.inr (by simp [evt, hb]))]
      exact X.none (Nat.le_of_lt hi) (Nat.le_refl _)
    · exact ⟨M, fun b hb => absurd ⟨b, hb⟩ hf, hM M (Nat.le_refl _)⟩
  obtain ⟨nw', hn1, hn2⟩ := hnw
  have ha' : aop P nw' V.bl env o = some (v, d) := by rw [aop_congr hx]; exact aop_bl hlook hn1 ha
  have hdf : ∀ c, o.op ≠ .defer c := by intro c hc; rw [aop_defer hc] at ha'; cases ha'
  refine ⟨fun f _ => hF.fn f, ?_⟩
  rw [Oper.semAt_eq _ _ _ hdf]
  obtain ⟨r', w', mu', v', hrun, hr', hE, hH, hv, hk⟩ := aop_sound D.hr R hn2 ha'
  rw [hrun]
  have hw : ∀ h, wrs T h i = true ↔ ∃ b, d = some (h, b) := by
    intro h
    rw [wrs_iff]
    constructor
    · rintro ⟨e, he, hw⟩
      rw [hev] at he
      injection he with he
      subst he
      cases d with
      | none => simp [evt] at hw
      | some p =>
        obtain ⟨h0, b⟩ := p
        simp [evt] at hw
        subst hw
        exact ⟨b, rfl⟩
    · rintro ⟨b, rfl⟩
      exact ⟨_, hev, .inl rfl⟩
  have hbl : bapp V.bl d = BlS T S' := by
    funext h
    by_cases hwh : wrs T h i = true
    · obtain ⟨b, hb⟩ := (hw h).1 hwh
      subst hb
      rw [bl_more T hi N.more (N.bl_later hev (.inl rfl)), if_pos hwh, hst2]
      simp only [bapp, AH.app, upd_same]
    · rw [bl_same T N.more (by simpa using hwh), ← D.bl]
      cases d with
      | none => rfl
      | some p =>
        obtain ⟨h0, b⟩ := p
        have : h ≠ h0 := fun e => hwh ((hw h).2 ⟨b, by rw [e]⟩)
        simp only [bapp, upd_ne _ _ this]
  have hlo : ∀ h b, d = some (h, b) → (T.st ops.size).2.lo ≤ h := by
    intro h b hb
    have := X.lo (i + 1) ops.size hi (Nat.le_refl _)
    rw [hst2, hb] at this
    exact Nat.le_trans this (Nat.min_le_right _ _)
  have D' : DI T F base N0 V0 S' (a.put o.dst v') ⟨w', mu', bapp V.bl d, V.hid⟩ := by
    refine D.next N ht ho hd hst1 hE hH hv hbl (fun h h1 h2 => ?_) ?_
    · have hne : ∀ b, d ≠ some (h, b) := fun b hb => by have := hlo h b hb; omega
      refine ⟨?_, hk h hne⟩
      cases d with
      | none => rfl
      | some p =>
        obtain ⟨h0, b⟩ := p
        have : h ≠ h0 := fun e => hne b (by rw [e])
        simp only [bapp, upd_ne _ _ this]
    · cases d with
      | none => exact ⟨M, hM⟩
      | some p =>
        obtain ⟨h0, b⟩ := p
        refine ⟨max M (h0 + 1), fun h hh => ?_⟩
        simp only [bapp]
        rw [upd_ne _ _ (by omega)]
        exact hM h (by omega)
  rcases hr' with rfl | ⟨rfl, rfl⟩
  · exact k _ _ D'
  · exact k _ _ D'

theorem evo_scoped {bl : Nat → Blk} {env : Env} (h : ∀ t, ScV bl (env t)) (x : Operand) : ScV bl (evo env x) := by
  cases x with
  | tmp t => exact h t
  | const v =>
    simp only [evo]
    split
    · exact .one .sc
    · exact .bad
  | global g => exact .bad
  | func f => exact .one (.fn (fun i c h => by simp at h) (fun i c h => by simp at h))

theorem drawn_full (hc : CallOk P call) (hF : Fine F) {n : Nat} (X : Text T) {a : Act} {V : View} (D : DI T F base N0 V0 S a V) (N : Now ops S S' i) (ht : tempOk ops = true) {o : Oper} (ho : ops[i]? = some o) (hd : dstOk N0 o = true) {v : AV} {H' : AH}
    {fc : Cell} {args : List AV} (hcall : call fc args (T.st i).2 = some (v, .full H')) (hst1 : (T.st (i + 1)).1 = putE (T.st i).1 o.dst v) (hst2 : (T.st (i + 1)).2 = H') (hev : T.ev i = some (evt (T.st i).1 o (T.st i).2 (.call (.full H'))))
    {fv : Value} {vals : Array Value} (hfv : CR V fc fv) (hargs : ASR V args vals)
    {K : Act → World → Prop} {Q : Exit → Act → World → Prop} (k : ∀ (a' : Act) (V' : View), DI T F base N0 V0 S' a' V' → K a' V'.w) : o.uponIn F n P a K Q ((calling fv vals).run P V.w) := by
  have hi := (Array.getElem?_eq_some_iff.1 ho).1
  have hall : ∀ h, BlS T S h = (T.st i).2.bl h := by
    intro h
    refine bl_at T (Nat.le_of_lt hi) (fun k hk hw => ?_) (fun k hk hk' hw => ?_)
    · obtain ⟨ek, hek, hw⟩ := wrs_iff.1 hw
      refine N.earlier (by omega) (T.ord k i ek _ hk hi hek hev ?_)
      have : ek.touch = true := by unfold Evt.touch; rcases hw with hw | hw <;> simp [hw]
      unfold Evt.conf
      simp [evt, this]
    · by_cases hki : k = i
      · subst hki; exact N.out
      obtain ⟨ek, hek, hw⟩ := wrs_iff.1 hw
      refine N.later (T.ord i k _ ek (by omega) hk' hev hek ?_)
      have : ek.touch = true := by unfold Evt.touch; rcases hw with hw | hw <;> simp [hw]
      unfold Evt.conf
      simp [evt, this]
  have hwr : ∀ h, wrs T h i = true := fun h => wrs_iff.2 ⟨_, hev, .inr rfl⟩
  have SV : SitH V (T.st i).2 := ⟨D.bl.trans (funext hall), fun h hh => X.none (Nat.le_of_lt hi) hh, D.hr⟩
  refine inv_upon hF (hc F hF (n - 1) _ _ _ _ _ hcall V _ _ SV hfv hargs) (fun v' w' hR => ?_) (fun _ _ h => h) (fun _ h => h)
  obtain ⟨V', rfl, h1, h2, h3⟩ := hR
  refine k _ _ (D.next N ht ho hd hst1 h1.ext h2.hr h3 ?_ (fun h h4 h5 => h1.keep h ?_ h5) ⟨H'.nx, fun h hh => ?_⟩)
  · funext h
    rw [bl_more T hi N.more (N.bl_later hev (.inr rfl)), if_pos (hwr h), hst2, h2.bl]
    rfl
  · have := X.lo (i + 1) ops.size hi (Nat.le_refl _)
    rw [hst2] at this
    exact Nat.lt_of_lt_of_le h4 this
  · rw [h2.bl]; exact h2.nx h hh

end
end Go.AM

namespace Go.AM
open Classical

section
variable {P : Program} {call : CallFn} {ops : Array Oper} {T : Trace P call ops} {F : Fence} {base N0 : Nat} {V0 : View} {S S' : Nat → Bool} {i : Nat}

theorem drawn_kept (hc : CallOk P call) (hF : Fine F) {n : Nat} (X : Text T) {a : Act} {V : View} (D : DI T F base N0 V0 S a V) (N : Now ops S S' i) (ht : tempOk ops = true) {o : Oper} (ho : ops[i]? = some o) (hd : dstOk N0 o = true) {v : AV} {e : Eff}
    {fc : Cell} {args : List AV} (hcall : call fc args (T.st i).2 = some (v, e)) (hst1 : (T.st (i + 1)).1 = putE (T.st i).1 o.dst v) (hst2 : (T.st (i + 1)).2 = e.app (T.st i).2) (hev : T.ev i = some (evt (T.st i).1 o (T.st i).2 (.call e)))
    (he : e = .clean ∨ ∃ b, e = .made b)
    {fv : Value} {vals : Array Value} (hfv : CR V fc fv) (hargs : ASR V args vals) (hsf : Sc (T.st i).2.bl fc) (hsa : ∀ x ∈ args, ScV (T.st i).2.bl x)
    {K : Act → World → Prop} {Q : Exit → Act → World → Prop} (k : ∀ (a' : Act) (V' : View), DI T F base N0 V0 S' a' V' → K a' V'.w) : o.uponIn F n P a K Q ((calling fv vals).run P V.w) := by
  have hi := (Array.getElem?_eq_some_iff.1 ho).1
  have hile := Nat.le_of_lt hi
  -- the event
  obtain ⟨evi, hevi, hcl, hnall⟩ : ∃ ev, T.ev i = some ev ∧ ev.call = true ∧ ev.all = false := by
    rcases he with rfl | ⟨b, rfl⟩
    · exact ⟨_, hev, rfl, rfl⟩
    · exact ⟨_, hev, rfl, rfl⟩
  have htch : evi.touch = true := by unfold Evt.touch; simp [hcl]
  -- whoever stands before and writes has come up
  have hbef : ∀ h k, k < i → wrs T h k = true → S k = true := by
    intro h k hk hw
    obtain ⟨ek, hek, hw⟩ := wrs_iff.1 hw
    refine N.earlier (by omega) (T.ord k i ek _ hk hi hek hevi ?_)
    unfold Evt.conf
    rcases hw with hw | hw
    · simp [hw, hcl]
    · simp [hw, htch]
  -- whoever stands behind, and has come up, and writes, writes something new
  have haft : ∀ h k, i ≤ k → k < ops.size → wrs T h k = true → S k = true → (T.st (i + 1)).2.nx ≤ h := by
    intro h k hk hk' hw hS
    have hki : k ≠ i := by intro e; subst e; rw [N.out] at hS; cases hS
    obtain ⟨ek, hek, hw⟩ := wrs_iff.1 hw
    have hno : evi.conf ek = false := by
      cases hcf : evi.conf ek with
      | false => rfl
      | true => have := N.later (T.ord i k _ ek (by omega) hk' hevi hek hcf); rw [this] at hS; cases hS
    have hall : ek.all = false := by
      cases ha : ek.all with
      | false => rfl
      | true => unfold Evt.conf at hno; simp [ha, htch] at hno
    have hw : ek.wr = some h := hw.resolve_right (by rw [hall]; simp)
    have hfr : ek.fresh = true := by
      cases hf : ek.fresh with
      | true => rfl
      | false => unfold Evt.conf at hno; simp [hw, hcl, hf] at hno
    -- a new block's handle is the next one
    have hnxk : h = (T.st k).2.nx := by
      have hs := T.step k ops[k] (Array.getElem?_eq_getElem hk')
      rcases stepD_cases hs with ⟨_, _, _, h4⟩ | ⟨v, d, _, _, _, _, h4⟩
      · rw [h4] at hek; cases hek
      · rw [h4] at hek
        injection hek with hek
        subst hek
        cases d with
        | op d =>
          cases d with
          | none => simp [evt] at hw
          | some p =>
            obtain ⟨h0, b⟩ := p
            simp [evt] at hw hfr
            omega
        | call e =>
          cases e with
          | clean => simp [evt] at hw
          | made b => simp [evt] at hw; exact hw.symm
          | full H' => simp [evt] at hw
    rw [hnxk]
    exact X.nx (i + 1) k (by omega) (by omega)
  have hsame : ∀ h, h < (T.st (i + 1)).2.nx → BlS T S h = (T.st i).2.bl h := by
    intro h hh
    refine bl_at T hile (fun k hk hw => hbef h k hk hw) (fun k hk hk' hw => ?_)
    cases hS : S k with
    | false => rfl
    | true => have := haft h k hk hk' hw hS; omega
  have hnx : (T.st i).2.nx ≤ (T.st (i + 1)).2.nx := X.nx i (i + 1) (by omega) hi
  have hlt : ∀ h, (T.st i).2.bl h ≠ .none → h < (T.st i).2.nx := by
    intro h hn
    rcases Nat.lt_or_ge h (T.st i).2.nx with h1 | h1
    · exact h1
    · exact absurd (X.none hile h1) hn
  have hVbl : ∀ h, (T.st i).2.bl h ≠ .none → V.bl h = (T.st i).2.bl h := fun h hn => by
    rw [D.bl]; exact hsame h (Nat.lt_of_lt_of_le (hlt h hn) hnx)
  have up : ∀ b : Blk, b.live → b ≠ .none := by intro b hb e; subst e; exact hb
  -- what the call sees
  let Vc : View := ⟨V.w, V.mu, (T.st i).2.bl, fun b => V.hid b ∨ ∃ h, (T.st i).2.bl h = .none ∧ (V.bl h).live ∧ V.mu h = b⟩
  have hownc : ∀ b, own Vc b → own V b := by
    rintro b ((hh | ⟨h, _, h2, h3⟩) | ⟨h, h2, h3⟩)
    · exact .inl hh
    · exact .inr ⟨h, h2, h3⟩
    · exact .inr ⟨h, by rw [hVbl h (up _ h2)]; exact h2, h3⟩
  have hsub : Sub (T.st i).2.bl V Vc := ⟨rfl, fun h hn => ⟨hn, (hVbl h hn).symm, rfl⟩, hownc⟩
  have HVc : HR Vc := by
    refine HR.sub hsub D.hr (fun h _ => X.scopedB hile h) (fun b hb => ?_)
    rcases hb with hh | ⟨h, h1, h2, h3⟩
    · exact ⟨(D.hr.hid b hh).1, fun j hj => (D.hr.hid b hh).2 j (by rw [hVbl j (up _ hj)]; exact hj)⟩
    · refine ⟨h3 ▸ D.hr.lt h2, fun j hj e => ?_⟩
      have := D.hr.inj j h (by rw [hVbl j (up _ hj)]; exact hj) h2 (e.trans h3.symm)
      subst this
      exact up _ hj h1
  have Sc : SitH Vc (T.st i).2 := ⟨rfl, fun h hh => X.none hile hh, HVc⟩
  have hargs' : ASR Vc args vals := ⟨hargs.len, fun j x hx => (hargs.get j x hx).sub hsub (hsa x (List.mem_of_getElem? hx))⟩
  refine inv_upon hF (hc F hF (n - 1) _ _ _ _ _ hcall Vc _ _ Sc (hfv.sub hsub hsf) hargs') (fun v' w' hR => ?_) (fun _ _ h => h) (fun _ h => h)
  obtain ⟨V2, rfl, T2, S2, hv2⟩ := hR
  -- what it leaves, and what was hidden
  have hV2i : ∀ h, (T.st i).2.bl h ≠ .none → V2.bl h = (T.st i).2.bl h := by
    intro h hn
    rw [S2.bl]
    rcases he with rfl | ⟨b, rfl⟩
    · rfl
    · have : h ≠ (T.st i).2.nx := by have := hlt h hn; omega
      exact upd_ne _ _ this
  have hV2n : ∀ h, (T.st i).2.bl h = .none → V.bl h ≠ .none → V2.bl h = .none := by
    intro h hn hV
    rw [S2.bl]
    rcases he with rfl | ⟨b, rfl⟩
    · exact hn
    · have : h ≠ (T.st i).2.nx := by
        intro e
        apply hV
        rw [D.bl, hsame h (by rw [hst2, e]; exact Nat.le_max_right _ _)]
        exact hn
      exact (upd_ne _ _ this).trans hn
  let V3 : View := ⟨V2.w, fun h => if V2.bl h = .none then V.mu h else V2.mu h, fun h => if V2.bl h = .none then V.bl h else V2.bl h, V.hid⟩
  have b3y : ∀ h, V2.bl h ≠ .none → V3.bl h = V2.bl h ∧ V3.mu h = V2.mu h := fun h hn => ⟨if_neg hn, if_neg hn⟩
  have b3n : ∀ h, V2.bl h = .none → V3.bl h = V.bl h ∧ V3.mu h = V.mu h := fun h hn => ⟨if_pos hn, if_pos hn⟩
  have hhid : ∀ h, V2.bl h = .none → (V.bl h).live → V2.hid (V.mu h) ∧ V2.w.heap[V.mu h]? = V.w.heap[V.mu h]? := by
    intro h hn hl
    refine T2.ext.hidk (V.mu h) (.inr ⟨h, ?_, hl, rfl⟩)
    by_cases hb : (T.st i).2.bl h = .none
    · exact hb
    · rw [hV2i h hb] at hn; exact hn
  have hVh : ∀ b, V.hid b → V2.hid b ∧ V2.w.heap[b]? = V.w.heap[b]? := fun b hb => T2.ext.hidk b (.inl hb)
  have own3 : ∀ b, own V3 b → own V2 b := by
    rintro b (hh | ⟨h, hl, hm⟩)
    · exact .inl (hVh b hh).1
    · by_cases hn : V2.bl h = .none
      · obtain ⟨h1, h2⟩ := b3n h hn
        rw [h1] at hl
        rw [h2] at hm
        exact .inl (hm ▸ (hhid h hn hl).1)
      · obtain ⟨h1, h2⟩ := b3y h hn
        rw [h1] at hl
        rw [h2] at hm
        exact .inr ⟨h, hl, hm⟩
  have E23 : ExtW V2 V3 := by
    refine ⟨fun b C e fr hb hno => ⟨rfl, fun h => hno (own3 b h)⟩, fun h => ?_⟩
    by_cases hn : V2.bl h = .none
    · unfold Turn; rw [hn]; trivial
    · exact .of_same (b3y h hn).1 (b3y h hn).2 (fun _ => rfl)
  have E03 : Ext V V3 := by
    refine ⟨⟨T2.ext.size, fun b hb hno => ?_, fun h => ?_⟩, T2.ext.io, fun b hb => ⟨hb, (hVh b hb).2⟩⟩
    · obtain ⟨h1, h2⟩ := T2.ext.keep b hb (fun h => hno (hownc b h))
      exact ⟨h1, fun h => h2 (own3 b h)⟩
    · by_cases hb : (T.st i).2.bl h = .none
      · by_cases hV : V.bl h = .none
        · unfold Turn; rw [hV]; trivial
        · have hn := hV2n h hb hV
          exact .of_same (b3n h hn).1 (b3n h hn).2 (fun hl => (hhid h hn hl).2)
      · have hn : V2.bl h ≠ .none := by rw [hV2i h hb]; exact hb
        have t := T2.ext.turn h
        have t2 : Turn V V2 h := by
          unfold Turn at t ⊢
          have e : V.bl h = Vc.bl h := hVbl h hb
          rw [e]
          exact t
        exact t2.congr (b3y h hn).1 (b3y h hn).2 rfl
  have H3 : HR V3 := by
    refine ⟨fun h => ?_, fun h h' hl hl' hm => ?_, fun b hb => ⟨(S2.hr.hid b (hVh b hb).1).1, fun h hl e => ?_⟩⟩
    · by_cases hn : V2.bl h = .none
      · rw [(b3n h hn).1, (b3n h hn).2]
        cases hb : V.bl h with
        | none => trivial
        | dead => trivial
        | _ => rw [← hb]; exact (D.hr.holds h).mono E03 (hhid h hn (by rw [hb]; trivial)).2
      · rw [(b3y h hn).1, (b3y h hn).2]
        exact (S2.hr.holds h).mono0 E23 rfl
    · by_cases hn : V2.bl h = .none <;> by_cases hn' : V2.bl h' = .none
      · rw [(b3n h hn).1] at hl
        rw [(b3n h' hn').1] at hl'
        rw [(b3n h hn).2, (b3n h' hn').2] at hm
        exact D.hr.inj _ _ hl hl' hm
      · rw [(b3n h hn).1] at hl
        rw [(b3y h' hn').1] at hl'
        rw [(b3n h hn).2, (b3y h' hn').2] at hm
        exact absurd hm.symm ((S2.hr.hid _ (hhid h hn hl).1).2 h' hl')
      · rw [(b3y h hn).1] at hl
        rw [(b3n h' hn').1] at hl'
        rw [(b3y h hn).2, (b3n h' hn').2] at hm
        exact absurd hm ((S2.hr.hid _ (hhid h' hn' hl').1).2 h hl)
      · rw [(b3y h hn).1] at hl
        rw [(b3y h' hn').1] at hl'
        rw [(b3y h hn).2, (b3y h' hn').2] at hm
        exact S2.hr.inj _ _ hl hl' hm
    · by_cases hn : V2.bl h = .none
      · rw [(b3n h hn).1] at hl
        rw [(b3n h hn).2] at e
        exact (D.hr.hid b hb).2 h hl e
      · rw [(b3y h hn).1] at hl
        rw [(b3y h hn).2] at e
        exact (S2.hr.hid b (hVh b hb).1).2 h hl e
  obtain ⟨M, hM⟩ := D.bd
  refine k _ V3 (D.next N ht ho hd hst1 E03 H3 (hv2.mono0 E23) ?_ (fun h h4 h5 => ?_) ⟨max M (e.app (T.st i).2).nx, fun h hh => ?_⟩)
  · funext h
    have hblS : BlS T S' h = if wrs T h i = true then (e.app (T.st i).2).bl h else V.bl h := by
      by_cases hw : wrs T h i = true
      · obtain ⟨ei, hei, hw'⟩ := wrs_iff.1 hw
        have hw2 : ei.wr = some h := by
          rw [hevi] at hei; injection hei with hei; subst hei
          exact hw'.resolve_right (by rw [hnall]; simp)
        rw [bl_more T hi N.more (N.bl_later hei (.inl hw2)), if_pos hw, if_pos hw, hst2]
      · rw [bl_same T N.more (by simpa using hw), if_neg hw, D.bl]
    rw [hblS]
    have hwi : wrs T h i = true ↔ ∃ b, e = .made b ∧ h = (T.st i).2.nx := by
      rw [wrs_iff]
      constructor
      · rintro ⟨ei, hei, hw⟩
        rw [hev] at hei; injection hei with hei; subst hei
        rcases he with rfl | ⟨b, rfl⟩
        · simp [evt] at hw
        · simp [evt] at hw; exact ⟨b, rfl, hw.symm⟩
      · rintro ⟨b, rfl, rfl⟩
        exact ⟨_, hev, .inl rfl⟩
    by_cases hw : wrs T h i = true
    · rw [if_pos hw, ← S2.bl]
      by_cases hn : V2.bl h = .none
      · rw [(b3n h hn).1, hn]
        obtain ⟨b, _, rfl⟩ := hwi.1 hw
        by_cases hV : V.bl (T.st i).2.nx = .none
        · exact hV
        · obtain ⟨b', rfl, _⟩ := hwi.1 hw
          exfalso
          apply hV
          rw [D.bl, hsame _ (by rw [hst2]; exact Nat.le_max_right _ _)]
          exact X.none hile (Nat.le_refl _)
      · exact (b3y h hn).1
    · rw [if_neg hw]
      by_cases hn : V2.bl h = .none
      · exact (b3n h hn).1
      · rw [(b3y h hn).1]
        by_cases hb : (T.st i).2.bl h = .none
        · exfalso
          apply hn
          rw [S2.bl]
          rcases he with rfl | ⟨b, rfl⟩
          · exact hb
          · have : h ≠ (T.st i).2.nx := fun e => hw (hwi.2 ⟨b, rfl, e⟩)
            exact (upd_ne _ _ this).trans hb
        · rw [hV2i h hb, hVbl h hb]
  · by_cases hb : (T.st i).2.bl h = .none
    · have hn := hV2n h hb h5
      exact b3n h hn
    · have hn : V2.bl h ≠ .none := by rw [hV2i h hb]; exact hb
      have hlo : h < (e.app (T.st i).2).lo := by
        have := X.lo (i + 1) ops.size hi (Nat.le_refl _)
        rw [hst2] at this
        exact Nat.lt_of_lt_of_le h4 this
      obtain ⟨h6, h7⟩ := T2.keep h hlo hb
      exact ⟨(b3y h hn).1.trans (h6.trans (hVbl h hb).symm), (b3y h hn).2.trans h7⟩
  · have hn : V2.bl h = .none := by rw [S2.bl]; exact S2.nx h (by omega)
    rw [(b3n h hn).1]
    exact hM h (by omega)

end
end Go.AM

namespace Go.AM

section
variable {P : Program} {call : CallFn} {ops : Array Oper} {T : Trace P call ops} {F : Fence} {base N0 : Nat} {V0 : View} {S S' : Nat → Bool} {i : Nat}

theorem drawn_step (hc : CallOk P call) (hF : Fine F) {n : Nat} (X : Text T) {a : Act} {V : View} (D : DI T F base N0 V0 S a V) (N : Now ops S S' i) (ht : tempOk ops = true) {o : Oper} (ho : ops[i]? = some o) (hd : dstOk N0 o = true)
    {K : Act → World → Prop} {Q : Exit → Act → World → Prop} (k : ∀ (a' : Act) (V' : View), DI T F base N0 V0 S' a' V' → K a' V'.w) : wpOpIn F n P ops Q i K a V.w := by
  have hi := (Array.getElem?_eq_some_iff.1 ho).1
  have hile := Nat.le_of_lt hi
  obtain ⟨env, R, hx, hw⟩ := named D N ht ho
  unfold wpOpIn
  rw [ho]
  simp only
  rcases stepD_cases (T.step i o ho) with ⟨h1, h2, h3, h4⟩ | ⟨v, d, h1, h2, h3, h4, h5⟩
  · rw [← hw] at h1
    rw [wanted_sound R h1, if_neg (by simp)]
    refine ⟨fun f _ => hF.fn f, k _ V (D.next N ht ho hd h2 (Ext.refl V) D.hr .und ?_ (fun _ _ _ => ⟨rfl, rfl⟩) D.bd)⟩
    rw [D.bl]
    funext h
    rw [bl_same T N.more (by unfold wrs; rw [h4])]
  · rw [← hw] at h1
    rw [wanted_sound R h1, if_pos rfl]
    unfold step1 at h2
    split at h2
    · rename_i f args ats hop
      split at h2
      · rename_i fc hfc
        obtain ⟨⟨r, e⟩, hcall, he⟩ := Option.map_eq_some_iff.1 h2
        injection he with he1 he2
        subst he1 he2
        have hdf : ∀ c, o.op ≠ .defer c := by intro c hc; rw [hop] at hc; cases hc
        refine ⟨fun f _ => hF.fn f, ?_⟩
        rw [Oper.semAt_eq _ _ _ hdf]
        have hex : execOp a.eval o = calling (a.eval f) (args.map a.eval) := by unfold execOp; rw [hop]; rfl
        rw [hex]
        have hf : evo env f = evo (T.st i).1 f := hx f (by rw [hop]; simp [Op.operands, Call.operands])
        have hargsE : args.toList.map (evo env) = args.toList.map (evo (T.st i).1) := List.map_congr_left (fun x hx' => hx x (by rw [hop]; simp [Op.operands, Call.operands]; exact .inr (by simpa using hx')))
        have hfv : CR V fc (a.eval f) := cell_sound (evo_sound R f) (by rw [hf]; exact hfc)
        have hargs : ASR V (args.toList.map (evo (T.st i).1)) (args.map a.eval) := by rw [← hargsE]; exact args_sound R args
        have hsc : ∀ x, ScV (T.st i).2.bl (evo (T.st i).1 x) := evo_scoped (X.scopedE hile)
        have hsf : Sc (T.st i).2.bl fc := by
          have := hsc f
          generalize evo (T.st i).1 f = y at this hfc
          cases y with
          | one c => simp only [AV.cell] at hfc; injection hfc with hfc; subst hfc; cases this; assumption
          | _ => simp [AV.cell] at hfc
        have hsa : ∀ x ∈ args.toList.map (evo (T.st i).1), ScV (T.st i).2.bl x := by
          intro x hx'
          obtain ⟨y, _, rfl⟩ := List.mem_map.1 hx'
          exact hsc y
        cases e with
        | full H' => exact drawn_full hc hF X D N ht ho hd hcall h3 h4 h5 hfv hargs k
        | clean => exact drawn_kept hc hF X D N ht ho hd hcall h3 h4 h5 (.inl rfl) hfv hargs hsf hsa k
        | made b => exact drawn_kept hc hF X D N ht ho hd hcall h3 h4 h5 (.inr ⟨b, rfl⟩) hfv hargs hsf hsa k
      · cases h2
    · obtain ⟨⟨r, e⟩, hop, he⟩ := Option.map_eq_some_iff.1 h2
      injection he with he1 he2
      subst he1 he2
      exact drawn_op hF X D N ht ho hd hop h3 h4 h5 R hx k

def unlisted (ops : Array Oper) (listed : Array Bool) : Nat := (List.range ops.size).countP (fun k => !listed.getD k false)

theorem countP_less {p q : Nat → Bool} {i : Nat} : ∀ {l : List Nat}, i ∈ l → (∀ k, q k = true → p k = true) → p i = true → q i = false → l.countP q < l.countP p := by
  intro l
  induction l with
  | nil => intro h; cases h
  | cons x l ih =>
    intro hm hqp hp hq
    have hle : l.countP q ≤ l.countP p := List.countP_mono_left (fun k _ h => hqp k h)
    rw [List.countP_cons, List.countP_cons]
    rcases List.mem_cons.1 hm with rfl | hm
    · rw [hp, hq]; simp; omega
    · have := ih hm hqp hp hq
      have : (if q x = true then 1 else 0) ≤ (if p x = true then 1 else 0) := by
        cases hx : q x with
        | false => simp
        | true => simp [hqp x hx]
      omega

theorem drawn_any (hc : CallOk P call) (hF : Fine F) {n : Nat} (X : Text T) (ht : tempOk ops = true) (hed : edgesOk ops = true) (hd : ∀ o ∈ ops.toList, dstOk N0 o = true) {Q : Exit → Act → World → Prop}
    (kq : ∀ (a' : Act) (V' : View), DI T F base N0 V0 (fun k => decide (k < ops.size)) a' V' → Q .normal a' V'.w) :
    ∀ (fuel : Nat) (listed : Array Bool), listed.size = ops.size → Closed ops (fun k => listed.getD k false) → unlisted ops listed ≤ fuel → ∀ (a : Act) (V : View), DI T F base N0 V0 (fun k => listed.getD k false) a V →
      wpAnyIn F n P .any ops Q fuel listed a V.w := by
  have allq : ∀ (listed : Array Bool), listed.size = ops.size → (∀ k, k < ops.size → listed.getD k false = true) → ∀ (a : Act) (V : View), DI T F base N0 V0 (fun k => listed.getD k false) a V → Q .normal a V.w := by
    intro listed hsz hall a V D
    refine kq a V ?_
    have : (fun k => listed.getD k false) = (fun k => decide (k < ops.size)) := by
      funext k
      by_cases hk : k < ops.size
      · simp [hk, hall k hk]
      · have : ¬ k < listed.size := by omega
        simp [Array.getD, hk, this]
    rw [← this]; exact D
  have done : ∀ (listed : Array Bool), listed.size = ops.size → Region.ready .any ops listed = [] → ∀ k, k < ops.size → listed.getD k false = true := by
    intro listed hsz hr k
    induction k using Nat.strongRecOn with
    | _ k ih =>
      intro hk
      cases hl : listed.getD k false with
      | true => rfl
      | false =>
        have : k ∈ Region.ready .any ops listed := mem_ready.2 ⟨by
          simp [Array.getD, hsz, hk] at hl ⊢
          exact hl, ops[k], Array.getElem?_eq_getElem hk, fun e he hb => by
          have hlt : e.on < k := by
            unfold edgesOk at hed
            have h1 := all_get hed (ops[k], k) (by rw [List.mem_zipIdx_iff_getElem?]; simp [hk])
            have h2 := all_get h1 e (by simpa using he)
            simpa [hb] using h2
          exact ih e.on hlt (by omega)⟩
        rw [hr] at this; cases this
  intro fuel
  induction fuel with
  | zero =>
    intro listed hsz hcl hcnt a V D
    have hall : ∀ k, k < ops.size → listed.getD k false = true := by
      intro k hk
      have h0 : unlisted ops listed = 0 := by omega
      unfold unlisted at h0
      rw [List.countP_eq_zero] at h0
      have := h0 k (by simpa using hk)
      simpa using this
    refine ⟨?_, allq listed hsz hall a V D⟩
    cases hr : Region.ready .any ops listed with
    | nil => rfl
    | cons i rs =>
      obtain ⟨h1, o, h2, _⟩ := mem_ready.1 (by rw [hr]; simp : i ∈ Region.ready .any ops listed)
      have hi := (Array.getElem?_eq_some_iff.1 h2).1
      have := hall i hi
      simp [Array.getD, hsz, hi] at h1 this
      rw [h1] at this; cases this
  | succ fuel ih =>
    intro listed hsz hcl hcnt a V D
    refine ⟨fun hr => allq listed hsz (done listed hsz hr) a V D, fun i hi => ?_⟩
    obtain ⟨h1, o, h2, h3⟩ := mem_ready.1 hi
    have hlt := (Array.getElem?_eq_some_iff.1 h2).1
    have hout : listed.getD i false = false := by
      simp [Array.getD, hsz, hlt] at h1 ⊢
      exact h1
    have hmore : ∀ k, (listed.setIfInBounds i true).getD k false = (listed.getD k false || decide (k = i)) := by
      intro k
      by_cases hk : k = i
      · subst hk; simp [Array.getD, hsz, hlt]
      · simp only [Array.getD_eq_getD_getElem?]
        rw [Array.getElem?_setIfInBounds_ne (Ne.symm hk)]
        simp [hk]
    have hcl' : Closed ops (fun k => (listed.setIfInBounds i true).getD k false) := by
      intro j oj hj hoj e he hb
      simp only [hmore, Bool.or_eq_true] at hj ⊢
      rcases hj with hj | hj
      · exact .inl (hcl j oj hj hoj e he hb)
      · have hj : j = i := by simpa using hj
        subst hj
        rw [h2] at hoj
        injection hoj with hoj
        subst hoj
        exact .inl (h3 e he hb)
    have hlt2 : unlisted ops (listed.setIfInBounds i true) < unlisted ops listed := by
      refine countP_less (i := i) (by simpa using hlt) (fun k hk => ?_) (by simp [hout]) (by simp [hmore])
      simp only [hmore] at hk
      simp at hk ⊢
      exact hk.1
    exact drawn_step hc hF X D ⟨hcl, hcl', hout, hmore⟩ ht h2 (hd o (List.mem_of_getElem? (by simpa using h2))) (fun a' V' D' => ih _ (by simp [hsz]) hcl' (by omega) a' V' D')

theorem region_draw (hmix : P.follows .mixedOrders = true) (hc : CallOk P call) (hF : Fine F) {n : Nat} {id : Nat} {Q : Exit → Act → World → Prop} {a : Act} {env env' : Env} {V : View} {H H' : AH} {es : List (Nat × Evt)} (S0 : Sit V H env F.round base a)
    (hd : ∀ o ∈ ops.toList, dstOk a.tmps.size o = true) (ht : tempOk ops = true) (hed : edgesOk ops = true) (h : aopsD P call ops 0 ops.toList env H = some (env', H', es)) (ho : ordOk (Region.before ops) es = true)
    (k : ∀ (V' : View) (a' : Act), Step V H V' H' → Sit V' H' env' F.round base a' → a'.tmps.size = a.tmps.size → Q .normal a' V'.w) : (Code.region id ops true).wpIn F n P Q a V.w := by
  obtain ⟨T, hT0, hTN⟩ := trace_of h ho
  refine wpIn_region_any hmix ?_
  have E0 := View.still (V := V) (w' := { V.w with drawn := V.w.drawn + 1 }) rfl
  have H0 := HR.still S0.hr (w' := { V.w with drawn := V.w.drawn + 1 }) rfl
  have S1 : Sit ⟨{ V.w with drawn := V.w.drawn + 1 }, V.mu, V.bl, V.hid⟩ (T.st 0).2 (T.st 0).1 F.round base a := by
    rw [hT0]
    exact ⟨⟨S0.bl, S0.nx, H0⟩, S0.er.mono E0, S0.dr.mono E0, S0.rd.mono E0⟩
  have X := text_of hc hF T S1 hd
  have hbl0 : BlS T (fun k => (Array.replicate ops.size false).getD k false) = (T.st 0).2.bl := by
    funext h
    exact bl_at T (Nat.zero_le _) (fun k hk => absurd hk (by omega)) (fun k _ hk _ => by simp [Array.getD])
  have hen0 : EnvS T (fun k => (Array.replicate ops.size false).getD k false) = (T.st 0).1 := by
    funext h
    exact env_at T (Nat.zero_le _) (fun k hk => absurd hk (by omega)) (fun k _ hk _ => by simp [Array.getD])
  refine drawn_any (T := T) (F := F) (base := base) (N0 := a.tmps.size) (V0 := V) hc hF X ht hed hd (fun a' V' D => ?_) ops.size _ (by simp) (fun j o hj => by simp [Array.getD] at hj) (by unfold unlisted; exact Nat.le_trans List.countP_le_length (by simp)) a ⟨{ V.w with drawn := V.w.drawn + 1 }, V.mu, V.bl, V.hid⟩
    ⟨by rw [hbl0]; exact S1.bl, H0, by rw [hen0]; exact S1.er, S1.dr, S1.rd, rfl, E0, fun _ _ _ => ⟨rfl, rfl⟩, ⟨(T.st 0).2.nx, fun h hh => by rw [S1.bl]; exact S1.nx h hh⟩⟩
  have hblN : BlS T (fun k => decide (k < ops.size)) = (T.st ops.size).2.bl := by
    funext h
    exact bl_at T (Nat.le_refl _) (fun k hk _ => by simpa using hk) (fun k h1 h2 _ => by omega)
  have henN : EnvS T (fun k => decide (k < ops.size)) = (T.st ops.size).1 := by
    funext h
    exact env_at T (Nat.le_refl _) (fun k hk _ => by simpa using hk) (fun k h1 h2 _ => by omega)
  have hlo := X.lo 0 ops.size (Nat.zero_le _) (Nat.le_refl _)
  have hnx := X.nx 0 ops.size (Nat.zero_le _) (Nat.le_refl _)
  rw [hT0, hTN] at hlo hnx
  refine k V' a' ⟨D.ext, hlo, hnx, fun h h1 h2 => D.keep h (by rw [hTN]; exact h1) h2⟩ ⟨⟨by rw [D.bl, hblN, hTN], fun h hh => ?_, D.hr⟩, ?_, D.dr, D.rd⟩ D.sz
  · have := X.none (k := ops.size) (h := h) (Nat.le_refl _) (by rw [hTN]; exact hh)
    rw [hTN] at this; exact this
  · have := D.er
    rw [henN, hTN] at this; exact this

end
end Go.AM

namespace Go.AM

section
variable {P : Program}

def LoopOk (P : Program) (n : Nat) : Prop := ∀ (F : Fence), Fine F → ∀ (m : Nat) (b : Code) (env : Env) (H : AH) (x : AX) (env' : Env) (H' : AH), aexec P n (.loop b) env H = some (x, env', H') →
  ∀ (V : View) (a : Act) (base : Nat), Sit V H env F.round base a → codeOk a.tmps.size b = true → base ≤ V.w.heap.size →
  ∀ (Q : Exit → Act → World → Prop), (∀ e a' w', XPost V H x env' H' F.round base a.tmps.size e a' w' → Q e a' w') → Code.roundsIn F m P b Q n a V.w

theorem XPost.trans {V V1 : View} {H H1 : AH} {x : AX} {env' : Env} {H' : AH} {ro : Option Nat} {base N N1 : Nat} {e : Exit} {a' : Act} {w' : World} (T : Step V H V1 H1) (hN : N1 = N) (h : XPost V1 H1 x env' H' ro base N1 e a' w') : XPost V H x env' H' ro base N e a' w' := by
  obtain ⟨h1, V', h2, h3, h4, h5⟩ := h
  exact ⟨h1, V', h2, T.trans h3, h4, h5.trans hN⟩

/-- Nothing is owned. -/
def VZ (W : World) : View := ⟨W, fun _ => 0, fun _ => .none, fun _ => False⟩
theorem own_VZ (W : World) (b : Nat) : ¬ own (VZ W) b := by
  rintro (h | ⟨_, h, _⟩)
  · exact h
  · exact h
theorem sit_VZ (W : World) : SitH (VZ W) HZ := ⟨rfl, fun _ _ => rfl, ⟨fun _ => trivial, fun _ _ h => h.elim, fun _ h => h.elim⟩⟩
theorem post_shut {V : View} {H : AH} {v : Value} {ed : Ending} {w' : World} (S : SitH V H) (h : CallPost (VZ V.w) HZ (.one (.sc v)) .clean ed w') : CallPost V H (.one (.sc v)) .clean ed w' := by
  cases ed with
  | returned u =>
    obtain ⟨V', rfl, hst, _, hv⟩ := h
    have E := hst.ext
    have same : ∀ b, b < V.w.heap.size → V'.w.heap[b]? = V.w.heap[b]? := fun b hb => (E.keep b hb (own_VZ V.w b)).1
    have E2 : Ext V ⟨V'.w, V.mu, V.bl, V.hid⟩ := by
      refine ⟨⟨E.size, fun b hb hn => ⟨same b hb, hn⟩, fun h => Turn.of_same rfl rfl (fun hl => same _ (S.hr.lt hl))⟩, E.io, fun b hb => ⟨hb, same b (S.hr.hid b hb).1⟩⟩
    refine ⟨⟨V'.w, V.mu, V.bl, V.hid⟩, rfl, ⟨E2, Nat.le_refl _, Nat.le_refl _, fun _ _ _ => ⟨rfl, rfl⟩⟩, ⟨S.bl, S.nx, ⟨fun h => ?_, S.hr.inj, fun b hb => ⟨?_, (S.hr.hid b hb).2⟩⟩⟩, ?_⟩
    · have hh := S.hr.holds h
      cases hb : V.bl h with
      | none => trivial
      | dead => trivial
      | _ => rw [hb] at hh; exact hh.mono E2 (same _ (S.hr.lt (by rw [hb]; trivial)))
    · exact Nat.lt_of_lt_of_le (S.hr.hid b hb).1 E.size
    · cases hv with
      | one hc =>
        cases hc with
        | ro hc =>
          cases hc with
          | sc hp => exact .one (.ro (.sc hp))
  | panicked _ => exact h
  | outgrown => exact h

theorem main (hp : progOk P = true) (hmix : P.follows .mixedOrders = true) : ∀ n, ExecOk P (aexec P n) ∧ ACallOk P (acall P n) ∧ LoopOk P n := by
  intro n
  induction n with
  | zero =>
    refine ⟨fun F hF m c env H x env' H' h => by simp [aexec] at h, fun F hF m f args H r e h => by simp [acall] at h, fun F hF m b env H x env' H' h => by simp [aexec] at h⟩
  | succ n ih =>
    obtain ⟨ihE, ihC, ihL⟩ := ih
    have hcall := callCell_ok ihE ihC
    have hloop : LoopOk P (n + 1) := by
      intro F hF m b env H x env' H' h V a base S hc hb Q k
      rw [aexec] at h
      rw [roundsIn_succ]
      split at h
      · rename_i env1 H1 hb1
        refine wpIn_mono (ihE F hF m b _ _ _ _ _ hb1 V a base S hc hb) (fun e a1 w1 hq => ?_)
        obtain ⟨rfl, V1, rfl, T1, S1, hs1⟩ := hq
        exact ihL F hF m b _ _ _ _ _ h V1 a1 base S1 (by rw [hs1]; exact hc) (Nat.le_trans hb T1.ext.size) Q (fun e a' w' hq => k e a' w' (hq.trans T1 hs1))
      · rename_i hne
        refine wpIn_mono (ihE F hF m b _ _ _ _ _ h V a base S hc hb) (fun e a1 w1 hq => ?_)
        cases x with
        | normal => exact absurd h (hne _ _)
        | jump j =>
          have := hq.1
          subst this
          cases j <;> exact k _ _ _ hq
    refine ⟨?_, ?_, hloop⟩
    · intro F hF m c env H x env' H' h V a base S hc hb
      cases c with
      | skip =>
        simp only [aexec] at h
        injection h with h; injection h with h1 h2; injection h2 with h2 h3; subst h1 h2 h3
        exact wpIn_skip ⟨rfl, V, rfl, Step.refl _ _, S, rfl⟩
      | label l =>
        simp only [aexec] at h
        injection h with h; injection h with h1 h2; injection h2 with h2 h3; subst h1 h2 h3
        exact wpIn_label ⟨rfl, V, rfl, Step.refl _ _, S, rfl⟩
      | exit id =>
        simp only [aexec] at h
        injection h with h; injection h with h1 h2; injection h2 with h2 h3; subst h1 h2 h3
        exact wpIn_exit ⟨rfl, V, rfl, Step.refl _ _, S, rfl⟩
      | goto l =>
        simp only [aexec] at h
        injection h with h; injection h with h1 h2; injection h2 with h2 h3; subst h1 h2 h3
        exact wpIn_goto ⟨rfl, V, rfl, Step.refl _ _, S, rfl⟩
      | ret =>
        simp only [aexec] at h
        injection h with h; injection h with h1 h2; injection h2 with h2 h3; subst h1 h2 h3
        exact wpIn_ret ⟨rfl, V, rfl, Step.refl _ _, S, rfl⟩
      | refuse s => simp [aexec] at h
      | region id ops draw =>
        simp only [codeOk, Bool.and_eq_true, List.all_eq_true] at hc
        rw [aexec] at h
        cases draw with
        | false =>
          simp only [Bool.false_eq_true, if_false] at h
          obtain ⟨⟨env1, H1⟩, hr, he⟩ := Option.map_eq_some_iff.1 h
          injection he with h1 h2; injection h2 with h2 h3
          subst h1 h2 h3
          exact region_wp hcall hF S hc.1 hr (fun V' a' h1 h2 h3 => ⟨rfl, V', rfl, h1, h2, h3⟩)
        | true =>
          simp only [if_true] at h
          split at h
          · rename_i env1 H1 es hr
            split at h
            · rename_i hord
              injection h with h; injection h with h1 h2; injection h2 with h2 h3
              subst h1 h2 h3
              have hc2 := hc.2
              simp only [Bool.not_true, Bool.false_or, Bool.and_eq_true] at hc2
              exact region_draw hmix hcall hF S hc.1 hc2.1 hc2.2 hr hord (fun V' a' h1 h2 h3 => ⟨rfl, V', rfl, h1, h2, h3⟩)
            · cases h
          · cases h
      | seq p q =>
        simp only [codeOk, Bool.and_eq_true] at hc
        rw [aexec] at h
        split at h
        · rename_i env1 H1 h1
          refine wpIn_seq (wpIn_mono (ihE F hF m p _ _ _ _ _ h1 V a base S hc.1 hb) (fun e a1 w1 hq => ?_))
          obtain ⟨rfl, V1, rfl, T1, S1, hs1⟩ := hq
          exact wpIn_mono (ihE F hF m q _ _ _ _ _ h V1 a1 base S1 (by rw [hs1]; exact hc.2) (Nat.le_trans hb T1.ext.size)) (fun e a' w' hq => hq.trans T1 hs1)
        · rename_i hne
          refine wpIn_seq (wpIn_mono (ihE F hF m p _ _ _ _ _ h V a base S hc.1 hb) (fun e a1 w1 hq => ?_))
          cases x with
          | normal => exact absurd h (hne _ _)
          | jump j =>
            have := hq.1
            subst this
            cases j <;> exact hq
      | cond cnd p q =>
        simp only [codeOk, Bool.and_eq_true] at hc
        rw [aexec] at h
        split at h
        · rename_i t ht
          have hv := evo_sound S.er cnd
          rw [ht] at hv
          have hv : a.eval cnd = .bool t := toV_sound hv _ rfl
          refine wpIn_cond hv (ihE F hF m _ _ _ _ _ _ h V a base S ?_ hb)
          cases t
          · exact hc.2
          · exact hc.1
        · cases h
      | block id b =>
        simp only [codeOk] at hc
        rw [aexec] at h
        split at h
        · rename_i i env1 H1 h1
          refine wpIn_block (wpIn_mono (ihE F hF m b _ _ _ _ _ h1 V a base S hc hb) (fun e a1 w1 hq => ?_))
          obtain ⟨rfl, hq⟩ := hq
          by_cases hid : i = id
          · rw [if_pos hid] at h
            injection h with h; injection h with h1 h2; injection h2 with h2 h3; subst h1 h2 h3
            simp only [AX.exit, Exit.inBlock, if_pos hid]
            exact ⟨rfl, hq⟩
          · rw [if_neg hid] at h
            injection h with h; injection h with h1 h2; injection h2 with h2 h3; subst h1 h2 h3
            simp only [AX.exit, Exit.inBlock, if_neg hid]
            exact ⟨rfl, hq⟩
        · rename_i hne
          refine wpIn_block (wpIn_mono (ihE F hF m b _ _ _ _ _ h V a base S hc hb) (fun e a1 w1 hq => ?_))
          have := hq.1
          subst this
          cases x with
          | normal => exact hq
          | jump j =>
            cases j with
            | exit i => exact absurd h (hne _ _ _)
            | ret => exact hq
            | goto l => exact hq
      | loop b =>
        simp only [codeOk] at hc
        exact wpIn_loop_rounds (n + 1) (hloop F hF m b _ _ _ _ _ h V a base S hc hb _ (fun _ _ _ hq => hq))
      | scope b =>
        simp only [codeOk] at hc
        rw [aexec] at h
        split at h
        · cases h
        · rename_i hne
          refine wpIn_scope (wpIn_mono (ihE F hF m b _ _ _ _ _ h V a base S hc hb) (fun e a1 w1 hq => ⟨fun l hl => ?_, hq⟩))
          have := hq.1
          rw [hl] at this
          cases x with
          | normal => cases this
          | jump j =>
            cases j with
            | goto l' => exact absurd h (hne _ _ _)
            | ret => cases this
            | exit _ => cases this
      | rangeFunc g ps as bd =>
        rw [aexec] at h
        split at h
        · rename_i f first caps hg
          simp only at h
          split at h
          · rename_i r0 e hcl
            split at h
            · rename_i r hbl
              split at h
              · cases h
              · rename_i hov
                have hov : r.over = false := by simpa using hov
                split at h
                · rename_i hpn hrd
                  injection h with h; injection h with h1 h2; injection h2 with h2 h3; subst h1 h2 h3
                  exact rangeFunc_wp ihC hF S hb hc hg hcl hbl hov (.inl ⟨hpn, hrd, rfl⟩)
                · rename_i j hpn hrd
                  injection h with h; injection h with h1 h2; injection h2 with h2 h3; subst h1 h2 h3
                  exact rangeFunc_wp ihC hF S hb hc hg hcl hbl hov (.inr ⟨j, hpn, hrd, rfl⟩)
                · cases h
            · cases h
          · cases h
        · cases h
    · intro F hF m f args H r e h V vals S A
      rw [acall] at h
      split at h
      · rename_i fn hf
        split at h
        · rename_i c hb
          split at h
          · cases h
          · rename_i hnm
            have hnm : (fn.name == "runtime.NumGoroutine") = false := by simpa using hnm
            refine ⟨fun w => run_callFunc hf hb hnm vals w, ?_⟩
            split at h
            · have fin : ∀ {x : AX} {env1 : Env} {H1 : AH}, aexec P n c (fun t => args.getD t .und) HZ = some (x, env1, H1) → (x = .normal ∨ x = .jump .ret) → ((resultsA P fn env1 H1.bl).bind fun vs => closedR (finish (fn.origin == "slices.Clone") HZ H1 (single vs))) = some (r, e) →
                  CallsIn F m P f vals V.w (CallPost V H r e) := by
                rename_i hsh
                intro x env1 H1 hex hx hr
                obtain ⟨xs, hres, hc⟩ := Option.bind_eq_some_iff.1 hr
                have hargs : args = [] := by
                  unfold shutFn at hsh
                  simp only [Bool.and_eq_true, List.isEmpty_iff] at hsh
                  exact hsh.1
                subst hargs
                generalize hfin : finish (fn.origin == "slices.Clone") HZ H1 (single xs) = q at hc
                obtain ⟨r1, e1⟩ := q
                have hcl : ∃ v, r1 = .one (.sc v) ∧ e1 = .clean ∧ r = .one (.sc v) ∧ e = .clean := by
                  unfold closedR at hc
                  split at hc
                  · rename_i v heq
                    injection hc with hc; injection hc with hc1 hc2; injection heq with heq1 heq2
                    exact ⟨v, heq1, heq2, hc1.symm, hc2.symm⟩
                  · cases hc
                obtain ⟨v, rfl, rfl, rfl, rfl⟩ := hcl
                have := acall_sound (V := VZ V.w) hp ihE hF hf hb hex hx hres hfin (sit_VZ V.w) (vals := vals) ⟨A.1, fun i x hx => by simp at hx⟩ (n := m)
                exact this.mono (fun ed w' h => post_shut S h)
              split at h
              · rename_i env1 H1 hex
                exact fin hex (.inl rfl) h
              · rename_i env1 H1 hex
                exact fin hex (.inr rfl) h
              · cases h
            split at h
            · rename_i env1 H1 hex
              obtain ⟨xs, hres, hfin⟩ := Option.map_eq_some_iff.1 h
              exact acall_sound hp ihE hF hf hb hex (.inl rfl) hres hfin S A
            · rename_i env1 H1 hex
              obtain ⟨xs, hres, hfin⟩ := Option.map_eq_some_iff.1 h
              exact acall_sound hp ihE hF hf hb hex (.inr rfl) hres hfin S A
            · cases h
        · cases h
      · cases h

theorem fine_wide : Fine Fence.wide := ⟨fun _ => trivial, rfl⟩

/-- What the abstract machine answers, Go answers. -/
theorem sound (hp : progOk P = true) (hmix : P.follows .mixedOrders = true) {n : Nat} {f : FuncId} {args : List AV} {H : AH} {r : AV} {e : Eff} (h : acall P n f args H = some (r, e)) {V : View} {vals : Array Value} (S : SitH V H) (A : ASR V args vals) :
    Calls P f vals V.w (CallPost V H r e) :=
  callsIn_wide.1 ((((main hp hmix n).2.1) Fence.wide fine_wide 0 f args H r e h V vals S A).2)

end
end Go.AM

namespace Go.AM
open Go.ChangeShapes Go.WideShapes Go.RowKit

section
variable {H : Type} {enc : TypeId × Value → H} {P : Program}

theorem below_of {W : World} {V : View} (E : Ext (VZ W) V) : Below W.heap.size W V.w :=
  ⟨E.io.1, E.io.2.2, E.io.2.1, E.size, fun k hk => (E.keep k hk (own_VZ W k)).1⟩

/-- A law that the abstract machine answers with true. -/
theorem law_calls (hp : progOk P = true) (hmix : P.follows .mixedOrders = true) {f : FuncId} {args : List AV} {W : World} {vals : Array Value} (A : ASR (VZ W) args vals) {R : AV → Eff → Prop} (hR : ∀ r e, R r e → r = .one (.sc (.bool true))) {n : Nat} {r : AV} {e : Eff} (h : acall P n f args HZ = some (r, e)) (hr : R r e) :
    Calls P f vals W fun ed W' => ed = .returned (.bool true) ∧ Below W.heap.size W W' := by
  have := hR r e hr
  subst this
  refine (sound hp hmix h (sit_VZ W) A).mono (fun ed W' he => ?_)
  cases ed with
  | returned v =>
    obtain ⟨V', rfl, hst, _, hv⟩ := he
    exact ⟨by rw [toV_sound hv _ rfl], below_of hst.ext⟩
  | panicked _ => exact he.elim
  | outgrown => exact he.elim

theorem trodAll_stays (hl : laidOutB P = true) {W W' : World} (hb : Below W.heap.size W W') {sp : Nat → Bool} : ∀ {ts : List TypeId} {vs : List Value} {ds : List (DataW H)} {p : List MemPlace}, (∀ t ∈ ts, P.readableRec t = true ∧ t < P.types.size) → (∀ x ∈ p, x.block < W.heap.size) → (∀ x ∈ p, sp x.block = true) →
    DataW.TrodAll enc P W 0 (fun _ => true) true ts vs ds p → DataW.TrodAll enc P W' 0 sp true ts vs ds p
  | [], _, _, _, _, _, _, h => by
    obtain ⟨rfl, rfl, rfl⟩ := trodAll_nil h
    exact rfl
  | _ :: _, _, _, _, ht, hlt, hs, h => by
    obtain ⟨v, vs1, d, ds1, a, b, rfl, rfl, rfl, h1, h2⟩ := trodAll_cons h
    exact ⟨a, b, WideElems.Trod_stays hl (ht _ (by simp)).1 (ht _ (by simp)).2 h1 (fun x hx => hb.same (hlt x (by simp [hx]))) (fun x hx => hs x (by simp [hx])),
      trodAll_stays hl hb (fun t h => ht t (by simp [h])) (fun x hx => hlt x (by simp [hx])) (fun x hx => hs x (by simp [hx])) h2, rfl⟩

theorem law_post (hl : laidOutB P = true) {fn : Func} {s : ChangeSpec} {apart fresh handsOn again : Bool} {W W' : World} {args : Array Value} {ds gs : List (DataW H)} {before : List MemPlace} {tb : TypeId} (hvars : s.vars = []) (hrt : fn.resultTypes = #[tb]) (htb : P.underlying tb = some .bool)
    (hts : ∀ t ∈ fn.params.toList, P.readableRec t = true ∧ t < P.types.size) (hW : DataW.Whole enc P fn.params.toList s.vars apart W args.toList ds gs before) (hb : Below W.heap.size W W')
    (hspec : (s.fn H (ds ++ gs)).results = [.lit (.bool true)] ∧ (s.fn H (ds ++ gs)).args = ds ∧ (s.fn H (ds ++ gs)).vars = []) :
    s.post enc P fn apart fresh handsOn again W args (.bool true) W' := by
  have hlt := hW.lt
  have hW0 := hW
  obtain ⟨p, q, hA, hV, hbf, hz, hn⟩ := hW
  rw [hvars] at hV
  obtain ⟨hgs, hq⟩ := trodVars_none hV
  subst hq
  simp only [List.append_nil] at hbf
  subst hbf
  have hres : ∀ (b : Nat) (sp : Nat → Bool) (hd : Bool), DataW.TrodAll enc P W' b sp hd fn.resultTypes.toList ((Value.bool true).resultList fn.resultTypes.size) (s.fn H (ds ++ gs)).results [] := by
    intro b sp hd
    rw [hspec.1, hrt]
    exact trodAll_mk1 (shut_bool htb true)
  have hargs : ∀ sp : Nat → Bool, (∀ x ∈ before, sp x.block = true) → DataW.TrodAll enc P W' 0 sp true fn.params.toList args.toList (s.fn H (ds ++ gs)).args before := by
    intro sp hs
    rw [hspec.2.1]
    exact trodAll_stays hl hb hts hlt hs hA
  have hvr : ∀ sp : Nat → Bool, DataW.TrodVars enc P W' sp s.vars (s.fn H (ds ++ gs)).vars [] := by
    intro sp
    rw [hvars, hspec.2.2]
    exact rfl
  have hold : ∀ x ∈ before, (fun b => decide (b < W.heap.size)) x.block = true := fun x hx => by simpa using hlt x hx
  refine ⟨ds, gs, before, [], before, [], hW0, hres _ _ _, hargs _ hold, hvr _, World.keptBut_mono (fun x hx => ⟨hx, .inr (.inl hx)⟩) (hb.frame _), fun _ => ⟨?_, _, _, ([] ++ before) ++ [], ⟨[] ++ before, [], trodAll_append (hargs _ (fun _ _ => rfl)) (hres _ _ _), hvr _, rfl, ?_, ?_⟩, ?_⟩⟩
  · intro j t r h1 h2
    rw [hrt] at h1 h2
    cases j with
    | zero =>
      simp at h1 h2
      subst h1
      have : r = .bool true := by simpa [Value.resultList] using h2.symm
      subst this
      simp [Value.okWide, htb, Cell.okWide, Cell.ok]
    | succ j => simp at h1
  · intro b off hp
    have hp : MemPlace.cell b off ∈ before := by simpa using hp
    rw [hb.frozen (p := ⟨b, off, none⟩) (hlt _ hp)]
    exact hz b off hp
  · intro ha
    simpa using hn ha
  · intro x hx _
    simpa using hx
end
end Go.AM

namespace Go.AM

/-- Where a struct's fields lie one behind the other: where the last one ends. -/
def tiled (P : Program) : Nat → List Field → Option Nat
  | off, [] => some off
  | off, f :: r => if f.offset = off then tiled P (off + P.cellsOf f.type) r else none
/-- Types of numbers, Bools, strings, slices and structs of such. -/
def okTy (P : Program) : Nat → TypeId → Bool
  | 0, _ => false
  | m + 1, t => match P.underlying t with
    | some .bool | some (.int _) | some .string => decide (P.cellsOf t = 1)
    | some (.slice e) => decide (P.cellsOf t = 1) && decide (0 < P.cellsOf e) && okTy P m e
    | some (.struct fs) => decide (tiled P 0 fs.toList = some (P.cellsOf t)) && fs.toList.all (fun f => okTy P m f.type)
    | _ => false
/-- What the cells of a type look like. -/
def Sh (P : Program) : Nat → TypeId → List Cell → Prop
  | 0, _, _ => False
  | m + 1, t, cs => match P.underlying t with
    | some .bool => ∃ b, cs = [.sc (.bool b)]
    | some (.int k) => ∃ i, cs = [.sc (.int k i)] ∧ k.min ≤ i ∧ i ≤ k.max
    | some .string => ∃ s, cs = [.sc (.string s)]
    | some (.slice e) => ∃ rows, cs = [.lst (P.cellsOf e) rows] ∧ rows.length ≤ maxLen ∧ ∀ r ∈ rows, Sh P m e r
    | some (.struct fs) => cs.length = P.cellsOf t ∧ ∀ f ∈ fs.toList, Sh P m f.type ((cs.drop f.offset).take (P.cellsOf f.type))
    | _ => False

/-- Cells for a list of values. -/
def Opens (W : World) (cs : List Cell) (vs : List Value) : Prop := cs.length = vs.length ∧ ∀ (i : Nat) c, cs[i]? = some c → RO W (own (VZ W)) c (vs.getD i undef)

theorem Opens.append {W : World} {a b : List Cell} {u v : List Value} (h : Opens W a u) (g : Opens W b v) : Opens W (a ++ b) (u ++ v) := by
  refine ⟨by simp [h.1, g.1], fun i c hc => ?_⟩
  by_cases hi : i < a.length
  · rw [List.getElem?_append_left hi] at hc
    have : (u ++ v).getD i undef = u.getD i undef := by simp only [List.getD]; rw [List.getElem?_append_left (by rw [← h.1]; exact hi)]
    rw [this]; exact h.2 i c hc
  · rw [List.getElem?_append_right (by omega)] at hc
    have : (u ++ v).getD i undef = v.getD (i - a.length) undef := by
      simp only [List.getD]; rw [List.getElem?_append_right (by rw [← h.1]; omega), ← h.1]
    rw [this]; exact g.2 _ c hc

/-- The cells of fields that tile. -/
theorem tile {P : Program} {W : World} {m : Nat} {vs : List Value} : ∀ {l : List Field} {off n : Nat}, tiled P off l = some n → n ≤ vs.length →
    (∀ f ∈ l, ∃ cs, Opens W cs ((vs.drop f.offset).take (P.cellsOf f.type)) ∧ Sh P m f.type cs) →
    off ≤ n ∧ ∃ cs, Opens W cs ((vs.drop off).take (n - off)) ∧ ∀ f ∈ l, off ≤ f.offset ∧ Sh P m f.type ((cs.drop (f.offset - off)).take (P.cellsOf f.type)) := by
  intro l
  induction l with
  | nil =>
    intro off n ht hn _
    simp only [tiled] at ht
    injection ht with ht
    subst ht
    exact ⟨Nat.le_refl _, [], ⟨by simp, fun i c h => by simp at h⟩, fun f hf => by simp at hf⟩
  | cons f l ih =>
    intro off n ht hn h
    simp only [tiled] at ht
    split at ht
    · rename_i hoff
      obtain ⟨cs1, h1, h2⟩ := h f (by simp)
      obtain ⟨hle, cs2, h3, h4⟩ := ih ht hn (fun g hg => h g (by simp [hg]))
      rw [hoff] at h1
      have hl1 : cs1.length = P.cellsOf f.type := by have := h1.1; simp at this; omega
      refine ⟨by omega, cs1 ++ cs2, ?_, fun g hg => ?_⟩
      · have := h1.append h3
        have e : (vs.drop off).take (P.cellsOf f.type) ++ (vs.drop (off + P.cellsOf f.type)).take (n - (off + P.cellsOf f.type)) = (vs.drop off).take (n - off) := by
          rw [← List.drop_drop, show n - off = P.cellsOf f.type + (n - (off + P.cellsOf f.type)) by omega, List.take_add]
        rw [e] at this; exact this
      · rcases List.mem_cons.1 hg with rfl | hg
        · refine ⟨by omega, ?_⟩
          rw [hoff, Nat.sub_self, List.drop_zero, List.take_append_of_le_length (by omega), List.take_of_length_le (by omega)]
          exact h2
        · obtain ⟨h5, h6⟩ := h4 g hg
          refine ⟨by omega, ?_⟩
          rw [List.drop_append, List.drop_of_length_le (by omega), List.nil_append, hl1, Nat.sub_sub]
          exact h6
    · cases ht


section
variable {H : Type} {enc : TypeId × Value → H} {P : Program} {W : World}
theorem opens_one {c : Cell} {v : Value} (h : RO W (own (VZ W)) c v) : Opens W [c] [v] := by
  refine ⟨rfl, fun i c' hc => ?_⟩
  cases i with
  | zero => simp at hc; subst hc; exact h
  | succ i => simp at hc

theorem add_cell {a : Addr} {p : Nat} {u : Value} (h : W.cell? (a.add p) = some u) : W.cell? ⟨a.block, a.off + p, none⟩ = some u ∧ (p = 0 → a.spot = none) := by
  unfold Addr.add at h
  split at h
  · rename_i hp
    subst hp
    have hs : a.spot = none := by
      unfold World.cell? at h
      split at h
      · split at h
        · cases h
        · rename_i hs; simpa using hs
      · cases h
    refine ⟨?_, fun _ => hs⟩
    have : (⟨a.block, a.off + 0, none⟩ : Addr) = a := by cases a; simp_all
    rw [this]; exact h
  · rename_i hp
    exact ⟨h, fun e => absurd e hp⟩
theorem build_list {α : Type} {p : Nat → α → Prop} : ∀ {n : Nat}, (∀ i, i < n → ∃ r, p i r) → ∃ rows : List α, rows.length = n ∧ ∀ i r, rows[i]? = some r → p i r := by
  intro n
  induction n with
  | zero => exact fun _ => ⟨[], rfl, fun i r h => by simp at h⟩
  | succ n ih =>
    intro h
    obtain ⟨rows, h1, h2⟩ := ih (fun i hi => h i (by omega))
    obtain ⟨r, hr⟩ := h n (by omega)
    refine ⟨rows ++ [r], by simp [h1], fun i x hx => ?_⟩
    by_cases hi : i < n
    · rw [List.getElem?_append_left (by omega)] at hx; exact h2 i x hx
    · have hl := (List.getElem?_eq_some_iff.1 hx).1
      simp at hl
      have : i = n := by omega
      subst this
      rw [List.getElem?_append_right (by omega), h1] at hx
      simp at hx
      subst hx; exact hr
theorem opens_of : ∀ (m fuel : Nat) (t : TypeId) (vs : List Value) (x : DataW H × List MemPlace), okTy P m t = true → DataW.trod enc P W 0 (fun _ => true) true fuel t vs = some x → ∃ cs, Opens W cs vs ∧ Sh P m t cs := by
  intro m
  induction m with
  | zero => intro fuel t vs x h; simp [okTy] at h
  | succ m ih =>
    intro fuel t vs x hok h
    cases fuel with
    | zero => simp [DataW.trod] at h
    | succ fuel =>
      unfold okTy at hok
      unfold Sh
      split at hok
      · rename_i hu
        unfold DataW.trod at h
        simp only [hu] at h
        split at h <;> first | (rename_i h1; cases h1; done) | (cases h; done) | skip
        rename_i b h1
        exact ⟨_, opens_one (.sc rfl), b, rfl⟩
      · rename_i k hu
        unfold DataW.trod at h
        simp only [hu] at h
        split at h <;> first | (rename_i h1; cases h1; done) | (cases h; done) | skip
        rename_i k0 k' n h1
        injection h1 with h1; injection h1 with h1; subst h1
        split at h
        · rename_i hw
          obtain ⟨rfl, hw⟩ := hw
          simp only [Lit.wf, Bool.and_eq_true, decide_eq_true_eq] at hw
          exact ⟨_, opens_one (.sc rfl), n, rfl, hw⟩
        · cases h
      · rename_i hu
        unfold DataW.trod at h
        simp only [hu] at h
        split at h <;> first | (rename_i h1; cases h1; done) | (cases h; done) | skip
        rename_i s h1
        exact ⟨_, opens_one (.sc rfl), s, rfl⟩
      · rename_i e hu
        simp only [Bool.and_eq_true, decide_eq_true_eq] at hok
        obtain ⟨⟨_, hpos⟩, hoke⟩ := hok
        unfold DataW.trod at h
        simp only [hu] at h
        split at h <;> first | (rename_i h1; cases h1; done) | (cases h; done) | skip
        · exact ⟨_, opens_one (.nil (sz := P.cellsOf e)), [], rfl, by simp, fun r hr => by simp at hr⟩
        · rename_i e0 a len cap h1
          injection h1 with h1; injection h1 with h1; subst h1
          split at h
          · rename_i hc
            obtain ⟨elems, hel, h⟩ := Option.bind_eq_some_iff.1 h
            obtain ⟨rest, hrest, _⟩ := Option.map_eq_some_iff.1 h
            simp only [if_true] at hrest
            obtain ⟨g1, g2⟩ := mapM_get hel
            obtain ⟨k1, k2⟩ := mapM_get hrest
            have one : ∀ i y, ((W.cells? 0 (a.add (i * P.cellsOf e)) (P.cellsOf e)).bind (DataW.trod enc P W 0 (fun _ => true) true fuel e)) = some y →
                ∃ row : List Cell, row.length = P.cellsOf e ∧ (∀ j c, row[j]? = some c → ∃ u, W.cell? ⟨a.block, a.off + (i * P.cellsOf e + j), none⟩ = some u ∧ RO W (own (VZ W)) c u) ∧ Sh P m e row ∧ (i = 0 → a.spot = none) := by
              intro i y hy
              obtain ⟨vsi, hv, ht⟩ := Option.bind_eq_some_iff.1 hy
              obtain ⟨cs, ho, hs⟩ := ih fuel e vsi y hoke ht
              unfold World.cells? at hv
              rw [if_pos (Nat.zero_le _)] at hv
              obtain ⟨q1, q2⟩ := mapM_get hv
              have hcs : cs.length = P.cellsOf e := by rw [ho.1, q1]; simp
              refine ⟨cs, hcs, fun j c hc' => ?_, hs, fun hi => ?_⟩
              · have hj : j < P.cellsOf e := by rw [← hcs]; exact (List.getElem?_eq_some_iff.1 hc').1
                obtain ⟨u, hu1, hu2⟩ := q2 j j (by simp [hj])
                have hro := ho.2 j c hc'
                have : vsi.getD j undef = u := by simp [List.getD, hu2]
                rw [this] at hro
                refine ⟨u, ?_, hro⟩
                have h1 := (add_cell hu1).1
                have e1 : (a.add (i * P.cellsOf e)).block = a.block := by unfold Addr.add; split <;> rfl
                have e2 : (a.add (i * P.cellsOf e)).off = a.off + i * P.cellsOf e := by
                  unfold Addr.add
                  split
                  · omega
                  · rfl
                rw [e1, e2, Nat.add_assoc] at h1
                exact h1
              · obtain ⟨u, hu1, _⟩ := q2 0 0 (List.getElem?_range hpos)
                have := (add_cell hu1).2 rfl
                subst hi
                simpa [Addr.add] using this
            obtain ⟨rows, r1, r2⟩ := build_list (n := len) (p := fun i row => row.length = P.cellsOf e ∧ (∀ j c, row[j]? = some c → ∃ u, W.cell? ⟨a.block, a.off + (i * P.cellsOf e + j), none⟩ = some u ∧ RO W (own (VZ W)) c u) ∧ Sh P m e row) (fun i hi => by
              obtain ⟨y, hy, _⟩ := g2 i i (by simp [hi])
              obtain ⟨row, q1, q2, q3, _⟩ := one i y hy
              exact ⟨row, q1, q2, q3⟩)
            have hsh : ∀ r ∈ rows, Sh P m e r := fun r hr => by
              obtain ⟨i, hi⟩ := List.getElem?_of_mem hr
              exact (r2 i r hi).2.2
            have hml : rows.length ≤ maxLen := by omega
            by_cases hcap : cap = 0
            · have hlen : len = 0 := by omega
              subst hcap hlen
              have : rows = [] := List.length_eq_zero_iff.1 r1
              subst this
              exact ⟨_, opens_one (.nil (sz := P.cellsOf e)), [], rfl, by simp, fun r hr => by simp at hr⟩
            · have hspot : a.spot = none := by
                by_cases hl : len = 0
                · obtain ⟨y, hy, _⟩ := k2 0 0 (List.getElem?_range (by omega))
                  rw [hl] at hy
                  obtain ⟨_, _, _, _, q⟩ := one 0 y hy
                  exact q rfl
                · obtain ⟨y, hy, _⟩ := g2 0 0 (List.getElem?_range (by omega))
                  obtain ⟨_, _, _, _, q⟩ := one 0 y hy
                  exact q rfl
              refine ⟨_, opens_one (c := .lst (P.cellsOf e) rows) ?_, rows, rfl, hml, hsh⟩
              have hcell : ∀ i j c, rc rows i j = some c → ∃ u, W.cell? ⟨a.block, a.off + (i * P.cellsOf e + j), none⟩ = some u ∧ RO W (own (VZ W)) c u := by
                intro i j c hc'
                obtain ⟨r, q1, q2⟩ := rc_some hc'
                exact (r2 i r q1).2.1 j c q2
              have := @RO.lst W (own (VZ W)) (P.cellsOf e) rows a cap (fun i j => (W.cell? ⟨a.block, a.off + (i * P.cellsOf e + j), none⟩).getD undef) (by omega) hspot (fun r hr => by
                obtain ⟨i, hi⟩ := List.getElem?_of_mem hr
                exact (r2 i r hi).1) (fun i j c hc' => ?_) (fun i j c hc' => ?_)
              · rw [r1] at this; exact this
              · obtain ⟨u, hu1, _⟩ := hcell i j c hc'
                exact ⟨own_VZ W _, by simp only [hu1, Option.getD_some]⟩
              · obtain ⟨u, hu1, hu2⟩ := hcell i j c hc'
                simp only [hu1, Option.getD_some]; exact hu2
          · cases h
      · rename_i fs hu
        simp only [Bool.and_eq_true, decide_eq_true_eq, List.all_eq_true] at hok
        obtain ⟨ht, hall⟩ := hok
        unfold DataW.trod at h
        simp only [hu] at h
        split at h
        · rename_i hlen
          obtain ⟨xs, hxs, _⟩ := Option.map_eq_some_iff.1 h
          obtain ⟨g1, g2⟩ := mapM_get hxs
          obtain ⟨_, cs, h1, h2⟩ := tile (m := m) (W := W) (vs := vs) ht (by omega) (fun f hf => by
            obtain ⟨i, hi⟩ := List.getElem?_of_mem hf
            obtain ⟨y, hy, _⟩ := g2 i f hi
            exact ih fuel f.type _ y (hall f hf) hy)
          rw [List.drop_zero, Nat.sub_zero, List.take_of_length_le (by omega)] at h1
          exact ⟨cs, h1, by rw [h1.1]; exact hlen, fun f hf => by simpa using (h2 f hf).2⟩
        · cases h
      · cases hok
end
end Go.AM

namespace Go.AM
open Go.ChangeShapes Go.WideShapes Go.RowKit

def mkAV (P : Program) (t : TypeId) (cs : List Cell) : AV := if aggB P t = some true then .agg cs else match cs with
  | [c] => .one c
  | _ => .bad
/-- What an argument looks like. -/
def ArgSh (P : Program) (m : Nat) (t : TypeId) (a : AV) : Prop := ∃ cs, Sh P m t cs ∧ a = mkAV P t cs
def Args (P : Program) (m : Nat) : List TypeId → List AV → Prop
  | [], [] => True
  | t :: ts, a :: l => ArgSh P m t a ∧ Args P m ts l
  | _, _ => False

section
variable {H : Type} {enc : TypeId × Value → H} {P : Program} {W : World}
theorem arg_of {m : Nat} {t : TypeId} {v : Value} {d : DataW H} {ps : List MemPlace} {base : Nat} (hok : okTy P m t = true) (hw : Value.okWide P W .any base t v) (h : DataW.Trod enc P W 0 (fun _ => true) true t v d ps) :
    ∃ a, ArgSh P m t a ∧ VR (VZ W) a v := by
  have one : aggB P t = some false → v.cells = #[v] → ∃ a, ArgSh P m t a ∧ VR (VZ W) a v := by
    intro hb hv
    obtain ⟨fuel, h⟩ := h
    rw [hv] at h
    obtain ⟨cs, ho, hs⟩ := opens_of m fuel t _ _ hok h
    have h1 := ho.1
    match cs, h1 with
    | [c], _ => exact ⟨.one c, ⟨[c], hs, by simp [mkAV, hb]⟩, .one (.ro (show RO W (own (VZ W)) c v by have := ho.2 0 c rfl; simpa [List.getD] using this))⟩
  cases m with
  | zero => simp [okTy] at hok
  | succ m =>
    have hok' := hok
    unfold okTy at hok'
    split at hok'
    · rename_i hu
      obtain ⟨b, rfl, _⟩ := open_bool hu hw h
      exact one (by simp [aggB, hu]) rfl
    · rename_i k hu
      obtain ⟨n, rfl⟩ := okWide_int hu hw
      exact one (by simp [aggB, hu]) rfl
    · rename_i hu
      obtain ⟨s, rfl⟩ := okWide_string hu hw
      exact one (by simp [aggB, hu]) rfl
    · rename_i e hu
      obtain ⟨a, l, c, rfl⟩ := okWide_slice hu hw
      exact one (by simp [aggB, hu]) rfl
    · rename_i fs hu
      unfold Value.okWide at hw
      rw [hu] at hw
      obtain ⟨vs, rfl, _⟩ := hw
      obtain ⟨fuel, h⟩ := h
      obtain ⟨cs, ho, hs⟩ := opens_of (m + 1) fuel t _ _ hok h
      have h1 := ho.1
      refine ⟨.agg cs, ⟨cs, hs, by simp [mkAV, aggB, hu]⟩, .agg (by simpa [Value.cells] using h1) (fun i c hc => .ro ?_)⟩
      have := ho.2 i c hc
      show RO W (own (VZ W)) c _
      simpa [Value.cells, List.getD, Array.getD_eq_getD_getElem?] using this
    · cases hok'

theorem args_of {m : Nat} {base : Nat} : ∀ {ts : List TypeId} {vs : List Value} {ds : List (DataW H)} {ps : List MemPlace}, (∀ t ∈ ts, okTy P m t = true) → (∀ (j : Nat) t v, ts[j]? = some t → vs[j]? = some v → Value.okWide P W .any base t v) →
    DataW.TrodAll enc P W 0 (fun _ => true) true ts vs ds ps → ds.length = ts.length ∧ ∃ avs : List AV, avs.length = vs.length ∧ (∀ i x, avs[i]? = some x → VR (VZ W) x (vs.getD i undef)) ∧ Args P m ts avs := by
  intro ts
  induction ts with
  | nil =>
    intro vs ds ps _ _ h
    obtain ⟨rfl, rfl, rfl⟩ := trodAll_nil h
    exact ⟨rfl, [], rfl, fun i x h => by simp at h, trivial⟩
  | cons t ts ih =>
    intro vs ds ps hok hw h
    obtain ⟨v, vs1, d, ds1, a, b, rfl, rfl, rfl, h1, h2⟩ := trodAll_cons h
    obtain ⟨x, hx, hv⟩ := arg_of (hok t (by simp)) (hw 0 t v rfl rfl) h1
    obtain ⟨hl, avs, h3, h4, h5⟩ := ih (fun t h => hok t (by simp [h])) (fun j t v h g => hw (j + 1) t v (by simpa using h) (by simpa using g)) h2
    refine ⟨by simp [hl], x :: avs, by simp [h3], fun i y hy => ?_, ⟨hx, h5⟩⟩
    cases i with
    | zero => simp at hy; subst hy; simpa using hv
    | succ i => simpa using h4 i y (by simpa using hy)

/-- A law: where the abstract machine answers true to whatever looks like the law's arguments. -/
theorem law_lifted {C : Checked} {os : Os} {f : FuncId} {fn : Func} {s : ChangeSpec} {conds : List PathCond} {m : Nat} {tb : TypeId}
    (hp : progOk C.prog = true) (hmix : C.prog.follows .mixedOrders = true) (hl : laidOutB C.prog = true)
    (own : ownKnob C.prog.godebug = none) (started : os.Started) (noInit : C.prog.inits.idxOf? f = none) (hfn : C.prog.funcs[f]? = some fn)
    (witness : ∃ (w : World) (tape : Tape) (i : Input), w.os = os ∧ (w.forCall tape i).Shaped C.prog ∧ i.vars = [] ∧ Input.okWide C.prog (w.forCall tape i) .any w.heap.size f i ∧
      s.pre6 enc C.prog fn conds false (w.forCall tape i).memory i.args ∧ ({} : Assume).holds C.prog (lone (Frame.enter C.prog f i.args .normal) [] (w.forCall tape i)))
    (hvars : s.vars = []) (hrt : fn.resultTypes = #[tb]) (htb : C.prog.underlying tb = some .bool)
    (hts : fn.params.toList.all (fun t => C.prog.readableRec t && decide (t < C.prog.types.size) && okTy C.prog m t) = true)
    (hspec : ∀ ds : List (DataW H), ds.length = fn.params.size → (s.fn H ds).results = [.lit (.bool true)] ∧ (s.fn H ds).args = ds ∧ (s.fn H ds).vars = [])
    (law : ∀ avs : List AV, Args C.prog m fn.params.toList avs → Cv C.prog f avs HZ (fun r _ => r = .one (.sc (.bool true)))) :
    ReturnsInHanded {} C os f .any (s.pre6 enc C.prog fn conds false) (s.post enc C.prog fn false true false false) := by
  refine returnsInHanded_of_change own started noInit hfn witness ?_
  intro W base args ds gs before hval hW _ _
  have hts1 : ∀ t ∈ fn.params.toList, (C.prog.readableRec t = true ∧ t < C.prog.types.size) ∧ okTy C.prog m t = true := fun t ht => by
    have := List.all_eq_true.1 hts t ht
    simpa using this
  have hgs : gs = [] := by
    obtain ⟨p, q, hA, hV, hbf, hz, hn⟩ := hW
    rw [hvars] at hV
    exact (trodVars_none hV).1
  obtain ⟨hdl, avs, h1, h2, h3⟩ : ds.length = fn.params.toList.length ∧ ∃ avs : List AV, avs.length = args.toList.length ∧ (∀ i x, avs[i]? = some x → VR (VZ W) x (args.toList.getD i undef)) ∧ Args C.prog m fn.params.toList avs := by
    obtain ⟨p, q, hA, hV, hbf, hz, hn⟩ := hW
    exact args_of (fun t ht => (hts1 t ht).2) (fun j t v h g => hval j t v (by simpa using h) (by simpa using g)) hA
  obtain ⟨n, r, e, hr1, hr2⟩ := law avs h3
  have A : ASR (VZ W) avs args := ⟨by simpa using h1, fun i x hx => by have := h2 i x hx; simpa [List.getD, Array.getD_eq_getD_getElem?] using this⟩
  have hc := law_calls hp hmix A (R := fun r _ => r = .one (.sc (.bool true))) (fun _ _ h => h) hr1 hr2
  refine hc.mono (fun ed W' he => ?_)
  obtain ⟨rfl, hb⟩ := he
  refine ⟨_, rfl, law_post hl hvars hrt htb (fun t ht => (hts1 t ht).1) hW hb ?_⟩
  subst hgs
  rw [List.append_nil]
  exact hspec ds (by simpa using hdl)
end
end Go.AM

namespace Go.AM
section
variable {P : Program} {m : Nat} {t : TypeId} {cs : List Cell}
theorem sh_int [I : UL P t (.int .i64)] (h : Sh P (m + 1) t cs) : ∃ n, cs = [cint n] ∧ fits n := by
  unfold Sh at h
  rw [I.eq] at h
  obtain ⟨n, h1, h2, h3⟩ := h
  refine ⟨n, h1, ?_⟩
  rw [show IntKind.i64.min = -9223372036854775808 from rfl] at h2
  rw [show IntKind.i64.max = 9223372036854775807 from rfl] at h3
  unfold fits
  omega
theorem sh_bool [I : UL P t .bool] (h : Sh P (m + 1) t cs) : ∃ b, cs = [cbool b] := by
  unfold Sh at h
  rw [I.eq] at h
  exact h
theorem list_of {α : Type} {enc : α → List Cell} {Q : α → Prop} : ∀ {rows : List (List Cell)}, (∀ r ∈ rows, ∃ x, r = enc x ∧ Q x) → ∃ l : List α, rows = l.map enc ∧ ∀ x ∈ l, Q x
  | [], _ => ⟨[], rfl, fun _ h => by simp at h⟩
  | r :: rows, h => by
    obtain ⟨x, rfl, hq⟩ := h r (by simp)
    obtain ⟨l, rfl, hl⟩ := list_of (rows := rows) (fun r hr => h r (by simp [hr]))
    exact ⟨x :: l, rfl, fun y hy => by rcases List.mem_cons.1 hy with rfl | hy; exact hq; exact hl y hy⟩
/-- A slice, by its elements. -/
theorem sh_list {α : Type} {enc : α → List Cell} {Q : α → Prop} {e : TypeId} {sz : Nat} [I : UL P t (.slice e)] (h : Sh P (m + 1) t cs) (E : ∀ r, Sh P m e r → ∃ x, r = enc x ∧ Q x) (hsz : P.cellsOf e = sz) :
    ∃ l : List α, cs = [.lst sz (l.map enc)] ∧ l.length ≤ 9223372036854775807 ∧ ∀ x ∈ l, Q x := by
  unfold Sh at h
  rw [I.eq] at h
  obtain ⟨rows, rfl, h2, h3⟩ := h
  obtain ⟨l, rfl, hl⟩ := list_of (fun r hr => E r (h3 r hr))
  have : (maxLen : Nat) = 9223372036854775807 := by rfl
  exact ⟨l, by rw [hsz], by simp at h2; omega, hl⟩
theorem sh_f {fs : Array Field} {f : Field} {n : Nat} (hu : P.underlying t = some (.struct fs)) (h : Sh P (m + 1) t cs) (i : Nat) (hf : fs.toList[i]? = some f) (hn : P.cellsOf f.type = n) : Sh P m f.type ((cs.drop f.offset).take n) := by
  unfold Sh at h
  rw [hu] at h
  rw [← hn]
  exact h.2 f (List.mem_of_getElem? hf)
theorem sh_len {fs : Array Field} {n : Nat} (hu : P.underlying t = some (.struct fs)) (h : Sh P (m + 1) t cs) (hn : P.cellsOf t = n) : cs.length = n := by
  unfold Sh at h
  rw [hu] at h
  rw [← hn]
  exact h.1
theorem cut (off n : Nat) : cs.drop off = (cs.drop off).take n ++ cs.drop (off + n) := by
  rw [← List.drop_drop, List.take_append_drop]
theorem arg_int [I : UL P t (.int .i64)] {a : AV} (h : ArgSh P (m + 1) t a) (hb : aggB P t = some false) : ∃ n, a = vint n ∧ fits n := by
  obtain ⟨cs, h1, rfl⟩ := h
  obtain ⟨n, rfl, hn⟩ := sh_int h1
  exact ⟨n, by simp [mkAV, hb], hn⟩
theorem arg_bool [I : UL P t .bool] {a : AV} (h : ArgSh P (m + 1) t a) (hb : aggB P t = some false) : ∃ b, a = vbool b := by
  obtain ⟨cs, h1, rfl⟩ := h
  obtain ⟨n, rfl⟩ := sh_bool h1
  exact ⟨n, by simp [mkAV, hb]⟩
theorem arg_list {α : Type} {enc : α → List Cell} {Q : α → Prop} {e : TypeId} {sz : Nat} [I : UL P t (.slice e)] {a : AV} (h : ArgSh P (m + 1) t a) (hb : aggB P t = some false) (E : ∀ r, Sh P m e r → ∃ x, r = enc x ∧ Q x) (hsz : P.cellsOf e = sz) :
    ∃ l : List α, a = .one (.lst sz (l.map enc)) ∧ l.length ≤ 9223372036854775807 ∧ ∀ x ∈ l, Q x := by
  obtain ⟨cs, h1, rfl⟩ := h
  obtain ⟨l, rfl, h2, h3⟩ := sh_list h1 E hsz
  exact ⟨l, by simp [mkAV, hb], h2, h3⟩
theorem arg_agg' {a : AV} (h : ArgSh P m t a) (hb : aggB P t = some true) : ∃ cs, a = .agg cs ∧ Sh P m t cs := by
  obtain ⟨cs, h1, rfl⟩ := h
  exact ⟨cs, by simp [mkAV, hb], h1⟩
theorem arg_sl {α : Type} {a : AV} {m' : Nat} {mk : α → List Cell} {Q : α → Prop} (h : ArgSh P m' t a) (hb : aggB P t = some false) (S : ∀ {cs}, Sh P m' t cs → ∃ l : α, cs = mk l ∧ Q l) {c : α → Cell} (hc : ∀ l, mk l = [c l] := by intro l; rfl) : ∃ l, a = .one (c l) ∧ Q l := by
  obtain ⟨cs, h1, rfl⟩ := h
  obtain ⟨l, rfl, hq⟩ := S h1
  exact ⟨l, by simp [mkAV, hb, hc], hq⟩
theorem arg_st {α : Type} {a : AV} {m' : Nat} {mk : α → List Cell} {Q : α → Prop} (h : ArgSh P m' t a) (hb : aggB P t = some true) (S : ∀ {cs}, Sh P m' t cs → ∃ l : α, cs = mk l ∧ Q l) : ∃ l, a = .agg (mk l) ∧ Q l := by
  obtain ⟨cs, h1, rfl⟩ := h
  obtain ⟨l, rfl, hq⟩ := S h1
  exact ⟨l, by simp [mkAV, hb], hq⟩
theorem args_cons {t : TypeId} {ts : List TypeId} {l : List AV} (h : Args P m (t :: ts) l) : ∃ a l', l = a :: l' ∧ ArgSh P m t a ∧ Args P m ts l' := by
  cases l with
  | nil => exact h.elim
  | cons a l => exact ⟨a, l, rfl, h.1, h.2⟩
theorem args_nil {l : List AV} (h : Args P m [] l) : l = [] := by
  cases l with
  | nil => rfl
  | cons a l => exact h.elim
theorem Cv.any {f : FuncId} {as' : List AV} {H : AH} {v : AV} (h : Cv P f as' H (Cl (· = v))) : Cv P f as' H (fun r _ => r = v) := h.mono (fun _ _ q => q.2)
end
end Go.AM
