/- Operations and calls that come up in whatever order. -/
import Derived.Test.YthcdhdgpokikfaaAmDraw4
namespace Go.AM
open Classical

section
variable {P : Program} {call : CallFn} {ops : Array Oper} {T : Trace P call ops} {F : Fence} {base N0 : Nat} {V0 : View} {S S' : Nat → Bool} {i : Nat}

theorem inv_upon (hF : Fine F) {n : Nat} {o : Oper} {a : Act} {next : Act → World → Prop} {Q : Exit → Act → World → Prop} {s : Sem Next} {w : World} {R : Ending → World → Prop} (h : InvOk F (n - 1) P s w R)
    (k : ∀ v' w', R (.returned v') w' → next (a.put o.dst v') w') (hp : ∀ c w', ¬ R (.panicked c) w') (ho : ∀ w', ¬ R .outgrown w') : o.uponIn F n P a next Q (s.run P w) := by
  rcases h with ⟨g, xs, hr, hg⟩ | ⟨l, g, ts, as, bd, hr, hg⟩
  · rw [hr]
    refine ⟨hF.le1, hg.mono (fun e w' he => ?_)⟩
    cases e with
    | returned v' => exact k v' w' he
    | panicked c => exact absurd he (hp c w')
    | outgrown => exact absurd he (ho w')
  · rw [hr]
    refine ⟨hF.le1, hg.mono (fun e w' he => ?_)⟩
    cases e with
    | returned v' => exact k v' w' he
    | panicked c => exact absurd he (hp c w')
    | outgrown => exact absurd he (ho w')

theorem drawn_op (hF : Fine F) {n : Nat} (X : Text T) {a : Act} {V : View} (D : DI T F base N0 V0 S a V) (N : Now ops S S' i) (ht : tempOk ops = true) {o : Oper} (ho : ops[i]? = some o) (hd : dstOk N0 o = true) {v : AV} {d : Option (Nat × Blk)}
    (ha : aop P (T.st i).2.nx (T.st i).2.bl (T.st i).1 o = some (v, d)) (hst1 : (T.st (i + 1)).1 = putE (T.st i).1 o.dst v) (hst2 : (T.st (i + 1)).2 = (T.st i).2.app d) (hev : T.ev i = some (evt (T.st i).1 o (T.st i).2 (.op d)))
    {env : Env} (R : ER V env a.tmps) (hx : ∀ x ∈ o.op.operands, evo env x = evo (T.st i).1 x)
    {K : Act → World → Prop} {Q : Exit → Act → World → Prop} (k : ∀ (a' : Act) (V' : View), DI T F base N0 V0 S' a' V' → K a' V'.w) : o.wpIn F n P a V.w K Q := by
  have hi := (Array.getElem?_eq_some_iff.1 ho).1
  obtain ⟨M, hM⟩ := D.bd
  have hlook : ∀ k ∈ looks (T.st i).1 o, V.bl k = (T.st i).2.bl k := fun k hk => by rw [D.bl]; exact N.bl hi hev (.inl hk)
  have hnw : ∃ nw', (∀ b, d = some ((T.st i).2.nx, b) → nw' = (T.st i).2.nx) ∧ V.bl nw' = .none := by
    by_cases hf : ∃ b, d = some ((T.st i).2.nx, b)
    · obtain ⟨b, hb⟩ := hf
      refine ⟨(T.st i).2.nx, fun _ _ => rfl, ?_⟩
      rw [D.bl, N.bl hi hev (.inr (by simp [evt, hb]))]
      exact X.none (Nat.le_of_lt hi) (Nat.le_refl _)
    · exact ⟨M, fun b hb => absurd ⟨b, hb⟩ hf, hM M (Nat.le_refl _)⟩
  obtain ⟨nw', hn1, hn2⟩ := hnw
  have ha' : aop P nw' V.bl env o = some (v, d) := by rw [aop_congr hx]; exact aop_bl hlook hn1 ha
  have hdf : ∀ c, o.op ≠ .defer c := by intro c hc; rw [aop_defer hc] at ha'; cases ha'
  refine ⟨fun f _ => hF.fn f, ?_⟩
  rw [Oper.semAt_eq _ _ _ hdf]
  obtain ⟨r', w', mu', v', hrun, hr', hE, hH, hv, hk⟩ := aop_sound D.hr R hn2 ha'
  rw [hrun]
  have hw : ∀ h, wrs T h i = true ↔ ∃ b, d = some (h, b) := by
    intro h
    rw [wrs_iff]
    constructor
    · rintro ⟨e, he, hw⟩
      rw [hev] at he
      injection he with he
      subst he
      cases d with
      | none => simp [evt] at hw
      | some p =>
        obtain ⟨h0, b⟩ := p
        simp [evt] at hw
        subst hw
        exact ⟨b, rfl⟩
    · rintro ⟨b, rfl⟩
      exact ⟨_, hev, .inl rfl⟩
  have hbl : bapp V.bl d = BlS T S' := by
    funext h
    by_cases hwh : wrs T h i = true
    · obtain ⟨b, hb⟩ := (hw h).1 hwh
      subst hb
      rw [bl_more T hi N.more (N.bl_later hev (.inl rfl)), if_pos hwh, hst2]
      simp only [bapp, AH.app, upd_same]
    · rw [bl_same T N.more (by simpa using hwh), ← D.bl]
      cases d with
      | none => rfl
      | some p =>
        obtain ⟨h0, b⟩ := p
        have : h ≠ h0 := fun e => hwh ((hw h).2 ⟨b, by rw [e]⟩)
        simp only [bapp, upd_ne _ _ this]
  have hlo : ∀ h b, d = some (h, b) → (T.st ops.size).2.lo ≤ h := by
    intro h b hb
    have := X.lo (i + 1) ops.size hi (Nat.le_refl _)
    rw [hst2, hb] at this
    exact Nat.le_trans this (Nat.min_le_right _ _)
  have D' : DI T F base N0 V0 S' (a.put o.dst v') ⟨w', mu', bapp V.bl d, V.hid⟩ := by
    refine D.next N ht ho hd hst1 hE hH hv hbl (fun h h1 h2 => ?_) ?_
    · have hne : ∀ b, d ≠ some (h, b) := fun b hb => by have := hlo h b hb; omega
      refine ⟨?_, hk h hne⟩
      cases d with
      | none => rfl
      | some p =>
        obtain ⟨h0, b⟩ := p
        have : h ≠ h0 := fun e => hne b (by rw [e])
        simp only [bapp, upd_ne _ _ this]
    · cases d with
      | none => exact ⟨M, hM⟩
      | some p =>
        obtain ⟨h0, b⟩ := p
        refine ⟨max M (h0 + 1), fun h hh => ?_⟩
        simp only [bapp]
        rw [upd_ne _ _ (by omega)]
        exact hM h (by omega)
  rcases hr' with rfl | ⟨rfl, rfl⟩
  · exact k _ _ D'
  · exact k _ _ D'

theorem evo_scoped {bl : Nat → Blk} {env : Env} (h : ∀ t, ScV bl (env t)) (x : Operand) : ScV bl (evo env x) := by
  cases x with
  | tmp t => exact h t
  | const v =>
    simp only [evo]
    split
    · exact .one .sc
    · exact .bad
  | global g => exact .bad
  | func f => exact .one (.fn (fun i c h => by simp at h) (fun i c h => by simp at h))

theorem drawn_full (hc : CallOk P call) (hF : Fine F) {n : Nat} (X : Text T) {a : Act} {V : View} (D : DI T F base N0 V0 S a V) (N : Now ops S S' i) (ht : tempOk ops = true) {o : Oper} (ho : ops[i]? = some o) (hd : dstOk N0 o = true) {v : AV} {H' : AH}
    {fc : Cell} {args : List AV} (hcall : call fc args (T.st i).2 = some (v, .full H')) (hst1 : (T.st (i + 1)).1 = putE (T.st i).1 o.dst v) (hst2 : (T.st (i + 1)).2 = H') (hev : T.ev i = some (evt (T.st i).1 o (T.st i).2 (.call (.full H'))))
    {fv : Value} {vals : Array Value} (hfv : CR V fc fv) (hargs : ASR V args vals)
    {K : Act → World → Prop} {Q : Exit → Act → World → Prop} (k : ∀ (a' : Act) (V' : View), DI T F base N0 V0 S' a' V' → K a' V'.w) : o.uponIn F n P a K Q ((calling fv vals).run P V.w) := by
  have hi := (Array.getElem?_eq_some_iff.1 ho).1
  have hall : ∀ h, BlS T S h = (T.st i).2.bl h := by
    intro h
    refine bl_at T (Nat.le_of_lt hi) (fun k hk hw => ?_) (fun k hk hk' hw => ?_)
    · obtain ⟨ek, hek, hw⟩ := wrs_iff.1 hw
      refine N.earlier (by omega) (T.ord k i ek _ hk hi hek hev ?_)
      have : ek.touch = true := by unfold Evt.touch; rcases hw with hw | hw <;> simp [hw]
      unfold Evt.conf
      simp [evt, this]
    · by_cases hki : k = i
      · subst hki; exact N.out
      obtain ⟨ek, hek, hw⟩ := wrs_iff.1 hw
      refine N.later (T.ord i k _ ek (by omega) hk' hev hek ?_)
      have : ek.touch = true := by unfold Evt.touch; rcases hw with hw | hw <;> simp [hw]
      unfold Evt.conf
      simp [evt, this]
  have hwr : ∀ h, wrs T h i = true := fun h => wrs_iff.2 ⟨_, hev, .inr rfl⟩
  have SV : SitH V (T.st i).2 := ⟨D.bl.trans (funext hall), fun h hh => X.none (Nat.le_of_lt hi) hh, D.hr⟩
  refine inv_upon hF (hc F hF (n - 1) _ _ _ _ _ hcall V _ _ SV hfv hargs) (fun v' w' hR => ?_) (fun _ _ h => h) (fun _ h => h)
  obtain ⟨V', rfl, h1, h2, h3⟩ := hR
  refine k _ _ (D.next N ht ho hd hst1 h1.ext h2.hr h3 ?_ (fun h h4 h5 => h1.keep h ?_ h5) ⟨H'.nx, fun h hh => ?_⟩)
  · funext h
    rw [bl_more T hi N.more (N.bl_later hev (.inr rfl)), if_pos (hwr h), hst2, h2.bl]
    rfl
  · have := X.lo (i + 1) ops.size hi (Nat.le_refl _)
    rw [hst2] at this
    exact Nat.lt_of_lt_of_le h4 this
  · rw [h2.bl]; exact h2.nx h hh

end
end Go.AM
