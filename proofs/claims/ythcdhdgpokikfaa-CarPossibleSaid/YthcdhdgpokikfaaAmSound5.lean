/- Calls of closures and of yield; ranges over functions; scopes. -/
import Derived.Test.YthcdhdgpokikfaaAmSound4
namespace Go.AM

theorem loop_of {V : View} (H : HR V) {h : Nat} {r : LoopRec} (hb : V.bl h = .loop r) : ∃ L, V.w.heap[V.mu h]? = some (.loop L) ∧ LR V r L := H.at hb
theorem loop_turn {V V' : View} (E : Ext V V') {h : Nat} {r : LoopRec} (hb : V.bl h = .loop r) : V'.mu h = V.mu h := by
  have t := E.turn h
  unfold Turn at t
  rw [hb] at t
  obtain ⟨_, _, t⟩ := t
  exact t

/-- A loop's record is written. -/
theorem write_loop {V : View} {H : AH} (S : SitH V H) {h : Nat} {r : LoopRec} (hb : V.bl h = .loop r) {L' : Loop} {r' : LoopRec}
    (hl : ∀ V' : View, Ext V V' → LR V' r' L') :
    let V' : View := ⟨V.w.putObj (V.mu h) (.loop L'), V.mu, bapp V.bl (some (h, .loop r')), V.hid⟩
    Step V H V' (H.app (some (h, .loop r'))) ∧ SitH V' (H.app (some (h, .loop r'))) := by
  intro V'
  have hlive : (V.bl h).live := by rw [hb]; trivial
  have hsz : (V.w.putObj (V.mu h) (.loop L')).heap.size = V.w.heap.size := World.putObj_size
  have hne : ∀ b, b ≠ V.mu h → (V.w.putObj (V.mu h) (.loop L')).heap[b]? = V.w.heap[b]? := fun b hb => World.putObj_heap_other hb
  have ht : Turn V ⟨V.w.putObj (V.mu h) (.loop L'), V.mu, upd V.bl h (.loop r'), V.hid⟩ h := by
    unfold Turn; rw [hb]; exact ⟨r', upd_same _ _ _, rfl⟩
  have E := View.write S.hr hlive hsz hne (.loop r') ht
  have HH := HR.write S.hr hlive hsz hne ht (fun V1 hV1 E1 => ⟨L', by rw [hV1]; exact World.putObj_heap_same (S.hr.lt hlive), hl V1 E1⟩)
  exact step_app S E HH (fun j hj => rfl)

theorem zip_fold {ps : Array Tmp} {vals ts : Array Value} : ((ps.zip vals).foldl (fun tmps (t, a) => tmps.setIfInBounds t a) ts) = ((ps.toList.zip vals.toList).foldl (fun tmps (t, a) => tmps.setIfInBounds t a) ts) := by
  rw [← Array.foldl_toList]; simp

theorem callCell_ok {P : Program} {ex : Code → Env → AH → Option (AX × Env × AH)} {ac : FuncId → List AV → AH → Option (AV × Eff)} (hx : ExecOk P ex) (ha : ACallOk P ac) : CallOk P (callCell ex ac) := by
  intro F hF n fc args H r e h V fv vals S hc A
  unfold callCell at h
  split at h
  · rename_i f first caps
    have key : ∃ p' q', fv = .func (.func f) p' q' ∧ ASR V (first.map .one) p' ∧ ASR V (caps.map .one) q' := by
      cases hc with
      | ro hc => cases hc; exact ⟨_, _, rfl, ⟨rfl, fun i x hx => by simp at hx⟩, ⟨rfl, fun i x hx => by simp at hx⟩⟩
      | fn h1 h2 h3 h4 => exact ⟨_, _, rfl, cells_asr h1 h3, cells_asr h2 h4⟩
    obtain ⟨p', q', rfl, hp, hq⟩ := key
    obtain ⟨h1, h2⟩ := ha F hF n f _ H r e h V (p' ++ vals ++ q') S ((hp.append A).append hq)
    exact .inl ⟨f, _, h1 V.w, h2⟩
  · rename_i l
    split at h
    · rename_i r0 hbl
      rw [← S.bl] at hbl
      split at h
      · rename_i hlen
        obtain ⟨L, hL, hLR⟩ := loop_of S.hr hbl
        have hfv : fv = .func (.yield (V.mu l)) #[] #[] := by
          cases hc with
          | ro hc => cases hc
          | yl h1 h2 => rw [h2 _ hbl]
        subst hfv
        have hps : L.params.size = r0.params.length := by rw [← hLR.params]; simp
        have hsz : (#[] ++ vals).size = L.params.size := by have := A.len; simp; omega
        have hrun : (calling (.func (.yield (V.mu l)) #[] #[]) vals).run P V.w = .ok (.round (V.mu l) L.fn (((L.params.zip (#[] ++ vals))).foldl (fun tmps (t, a) => tmps.setIfInBounds t a) L.tmps) L.assign L.body) V.w := run_yield hL hsz
        obtain ⟨hER, hTS⟩ := setParams_er (ps := r0.params) (args := args) (vals := vals.toList) hLR.env hlen.symm (by have := A.len; simpa using this) (fun i x hx => by
          have := A.get i x hx
          rw [Array.getD_eq_getD_getElem?] at this
          simpa [List.getD] using this) (by have := hLR.ok.1; simpa using this)
        have hts : ((L.params.zip (#[] ++ vals))).foldl (fun tmps (t, a) => tmps.setIfInBounds t a) L.tmps = ((r0.params.zip vals.toList).foldl (fun tmps (t, a) => tmps.setIfInBounds t a) L.tmps) := by
          rw [zip_fold, hLR.params]; simp
        rw [hts] at hrun
        rw [hLR.assign, hLR.body] at hrun
        refine .inr ⟨_, _, _, _, _, hrun, roundIn_of_wpIn (hF.fn _) ?_⟩
        split at h
        · rename_i env2 H2 hex1
          split at h
          · rename_i r2 hb2
            split at h
            · rename_i hrdy
              split at h
              · rename_i x env4 H4 hex2
                split at h
                · rename_i r4 hb4
                  -- the assignments
                  have S0 : Sit V H (setParams r0.env r0.params args) (F.inRound (V.mu l)).round V.w.heap.size { tmps := (r0.params.zip vals.toList).foldl (fun tmps (t, a) => tmps.setIfInBounds t a) L.tmps, defers := [] } :=
                    ⟨S, hER, DR.nil _ _, fun l' hl' => by injection hl' with hl'; subst hl'; exact ⟨l, r0, hbl, rfl⟩⟩
                  refine wpIn_mono (hx (F.inRound (V.mu l)) (hF.inRound _) n _ _ _ _ _ _ hex1 V _ _ S0 (by rw [hTS]; exact hLR.ok.2.1) (Nat.le_refl _)) (fun ext a1 w1 hq => ?_)
                  obtain ⟨rfl, V2, rfl, T2, S2, hsz2⟩ := hq
                  have hm2 : V2.mu l = V.mu l := loop_turn T2.ext hbl
                  rw [← S2.bl] at hb2
                  obtain ⟨L2, hL2, hLR2⟩ := loop_of S2.hr hb2
                  obtain ⟨q1, q2, q3⟩ := hLR2.ready hrdy.2 hrdy.1
                  obtain ⟨T3, S3⟩ := write_loop S2.toSitH hb2 (L' := { L2 with state := .busy }) (r' := { r2 with ready := false }) (fun V' E => ⟨hLR2.params, hLR2.assign, hLR2.body, hLR2.env.mono E, hLR2.ok, fun _ h2 => by simp at h2, fun j _ _ h3 => by simp only [q3] at h3; cases h3⟩)
                  refine ⟨V2.w.putObj (V2.mu l) (.loop { L2 with state := .busy }), by rw [← hm2]; exact run_beginRound hL2 q1, ?_⟩
                  have S3' : Sit _ _ env2 (F.inRound (V.mu l)).round V.w.heap.size a1 := ⟨S3, S2.er.mono T3.ext, S2.dr.mono T3.ext, S2.rd.mono T3.ext⟩
                  refine wpIn_mono (hx (F.inRound (V.mu l)) (hF.inRound _) n _ _ _ _ _ _ hex2 _ a1 _ S3' (by rw [hsz2, hTS]; exact hLR.ok.2.2) (Nat.le_trans T2.ext.size T3.ext.size)) (fun ext a4 w4 hq => ?_)
                  obtain ⟨rfl, V4, rfl, T4, S4, hsz4⟩ := hq
                  have hm4 : V4.mu l = V.mu l := by
                    rw [← hm2]
                    exact loop_turn T4.ext (h := l) (r := { r2 with ready := false }) (by simp only [bapp, upd_same])
                  rw [← S4.bl] at hb4
                  obtain ⟨L4, hL4, hLR4⟩ := loop_of S4.hr hb4
                  cases x with
                  | normal =>
                    injection h with h; injection h with h1 h2; subst h1 h2
                    obtain ⟨T5, S5⟩ := write_loop S4.toSitH hb4 (L' := { L4 with state := if (none : Option Code).isNone then .ready else .done, pending := none }) (r' := { r4 with ready := true, pending := none, over := false }) (fun V' E => ⟨hLR4.params, hLR4.assign, hLR4.body, hLR4.env.mono E, hLR4.ok, fun _ _ => ⟨rfl, rfl, rfl⟩, fun j _ h2 => by simp at h2⟩)
                    refine ⟨_, _, by rw [← hm4]; exact run_endRound none hL4, _, rfl, (T2.trans (T3.trans (T4.trans T5))), S5, .one (.ro (.sc rfl))⟩
                  | jump j =>
                    injection h with h; injection h with h1 h2; subst h1 h2
                    obtain ⟨T5, S5⟩ := write_loop S4.toSitH hb4 (L' := { L4 with state := if (some (jumpCode j) : Option Code).isNone then .ready else .done, pending := some (jumpCode j) }) (r' := { r4 with ready := false, pending := some j, over := false }) (fun V' E => ⟨hLR4.params, hLR4.assign, hLR4.body, hLR4.env.mono E, hLR4.ok, fun _ h2 => by simp at h2, fun j' _ _ h3 => by injection h3 with h3; subst h3; exact ⟨rfl, rfl⟩⟩)
                    have goal : ∃ v w', (Instr.endRound (V.mu l) (some (jumpCode j))).run P V4.w = .ok v w' ∧ CallPost V H (.one (.sc (.bool false))) (.full (H4.app (some (l, .loop { r4 with ready := false, pending := some j, over := false })))) (.returned v) w' :=
                      ⟨_, _, by rw [← hm4]; exact run_endRound _ hL4, _, rfl, (T2.trans (T3.trans (T4.trans T5))), S5, .one (.ro (.sc rfl))⟩
                    cases j <;> exact goal
                · cases h
              · cases h
            · cases h
          · cases h
        · cases h
      · cases h
    · cases h
  · cases h

/-- Something more in the heap. -/
theorem View.extra {V : View} (H : HR V) {w' : World} {o : Obj} (hw : w'.heap = V.w.heap.push o) (hio : Wio V.w w' := by exact ⟨rfl, rfl, rfl⟩) : Ext V ⟨w', V.mu, V.bl, V.hid⟩ ∧ HR ⟨w', V.mu, V.bl, V.hid⟩ := by
  have E : Ext V ⟨w', V.mu, V.bl, V.hid⟩ := ⟨⟨by simp [hw], fun b hb ho => ⟨push_lt hw hb, ho⟩, fun h => .of_same rfl rfl (fun hl => push_lt hw (H.lt hl))⟩, hio, fun b hb => ⟨hb, push_lt hw (H.hid b hb).1⟩⟩
  refine ⟨E, ⟨fun h => ?_, H.inj, fun b hb => ⟨by simp only [hw, Array.size_push]; have := (H.hid b hb).1; omega, (H.hid b hb).2⟩⟩⟩
  show Holds _ (V.mu h) (V.bl h)
  cases hb : V.bl h with
  | none => trivial
  | dead => trivial
  | _ => rw [← hb]; exact (H.holds h).mono E (push_lt hw (H.lt (by rw [hb]; trivial)))

section
variable {P : Program} {b : Frame} {a : Act} {k : List Item} {cs : List Frame} {w : World} {Q : Exit → Act → World → Prop} {F : Fence} {n : Nat}
theorem stepR_scope {c : Code} : step P (lone (b.atR a (.code (.scope c) :: k)) cs w) = .next (lone (b.atR a (.code c :: .inScope c :: k)) cs w) :=
  step_lone_go (by simp [stepG, stepG.exec, Frame.atR])
theorem stepR_inScope {c : Code} : step P (lone (b.atR a (.inScope c :: k)) cs w) = .next (lone (b.atR a k) cs w) :=
  step_lone_go (by simp [stepG, stepG.exec, Frame.atR])

theorem wpIn_scope {c : Code} (h : c.wpIn F n P (fun e a w => (∀ l, e ≠ .goto l) ∧ Q e a w) a w) : (Code.scope c).wpIn F n P Q a w := by
  intro b k cs hro hb hr
  have h0 : (lone (b.atR a (.code (.scope c) :: k)) cs w).fenced P F := fenced_calm hb hr rfl
  obtain ⟨e, a₁, w₁, hq, harr⟩ := h b (.inScope c :: k) cs hro hb hr
  cases e with
  | normal => exact ⟨.normal, a₁, w₁, hq.2, .head h0 stepR_scope (StepsIn.trans harr (.one (fenced_calm hb hr rfl) stepR_inScope))⟩
  | exit id =>
    exact ⟨.exit id, a₁, w₁, hq.2, fun k' hk => .head h0 stepR_scope (harr.1 k' (by simp [exitTo, hk])),
      fun hr' hk => let ⟨k₁, h1, h2⟩ := harr.2 hr' (by simp [exitTo, hk]); ⟨k₁, h1, .head h0 stepR_scope h2⟩⟩
  | goto l => exact absurd rfl (hq.1 l)
  | ret => exact ⟨_, a₁, w₁, hq.2, .of_steps (.one h0 stepR_scope) harr⟩
  | panic ch => exact ⟨_, a₁, w₁, hq.2, .of_steps (.one h0 stepR_scope) harr⟩
  | outgrown => exact ⟨_, a₁, w₁, hq.2, .of_steps (.one h0 stepR_scope) harr⟩
end

end Go.AM
