/- A call that leaves the heap as it was, or with one row more: what has come up behind it in the text is hidden from it. -/
import Derived.Test.YthcdhdgpokikfaaAmDraw5
namespace Go.AM
open Classical

section
variable {P : Program} {call : CallFn} {ops : Array Oper} {T : Trace P call ops} {F : Fence} {base N0 : Nat} {V0 : View} {S S' : Nat → Bool} {i : Nat}

theorem drawn_kept (hc : CallOk P call) (hF : Fine F) {n : Nat} (X : Text T) {a : Act} {V : View} (D : DI T F base N0 V0 S a V) (N : Now ops S S' i) (ht : tempOk ops = true) {o : Oper} (ho : ops[i]? = some o) (hd : dstOk N0 o = true) {v : AV} {e : Eff}
    {fc : Cell} {args : List AV} (hcall : call fc args (T.st i).2 = some (v, e)) (hst1 : (T.st (i + 1)).1 = putE (T.st i).1 o.dst v) (hst2 : (T.st (i + 1)).2 = e.app (T.st i).2) (hev : T.ev i = some (evt (T.st i).1 o (T.st i).2 (.call e)))
    (he : e = .clean ∨ ∃ b, e = .made b)
    {fv : Value} {vals : Array Value} (hfv : CR V fc fv) (hargs : ASR V args vals) (hsf : Sc (T.st i).2.bl fc) (hsa : ∀ x ∈ args, ScV (T.st i).2.bl x)
    {K : Act → World → Prop} {Q : Exit → Act → World → Prop} (k : ∀ (a' : Act) (V' : View), DI T F base N0 V0 S' a' V' → K a' V'.w) : o.uponIn F n P a K Q ((calling fv vals).run P V.w) := by
  have hi := (Array.getElem?_eq_some_iff.1 ho).1
  have hile := Nat.le_of_lt hi
  -- the event
  obtain ⟨evi, hevi, hcl, hnall⟩ : ∃ ev, T.ev i = some ev ∧ ev.call = true ∧ ev.all = false := by
    rcases he with rfl | ⟨b, rfl⟩
    · exact ⟨_, hev, rfl, rfl⟩
    · exact ⟨_, hev, rfl, rfl⟩
  have htch : evi.touch = true := by unfold Evt.touch; simp [hcl]
  -- whoever stands before and writes has come up
  have hbef : ∀ h k, k < i → wrs T h k = true → S k = true := by
    intro h k hk hw
    obtain ⟨ek, hek, hw⟩ := wrs_iff.1 hw
    refine N.earlier (by omega) (T.ord k i ek _ hk hi hek hevi ?_)
    unfold Evt.conf
    rcases hw with hw | hw
    · simp [hw, hcl]
    · simp [hw, htch]
  -- whoever stands behind, and has come up, and writes, writes something new
  have haft : ∀ h k, i ≤ k → k < ops.size → wrs T h k = true → S k = true → (T.st (i + 1)).2.nx ≤ h := by
    intro h k hk hk' hw hS
    have hki : k ≠ i := by intro e; subst e; rw [N.out] at hS; cases hS
    obtain ⟨ek, hek, hw⟩ := wrs_iff.1 hw
    have hno : evi.conf ek = false := by
      cases hcf : evi.conf ek with
      | false => rfl
      | true => have := N.later (T.ord i k _ ek (by omega) hk' hevi hek hcf); rw [this] at hS; cases hS
    have hall : ek.all = false := by
      cases ha : ek.all with
      | false => rfl
      | true => unfold Evt.conf at hno; simp [ha, htch] at hno
    have hw : ek.wr = some h := hw.resolve_right (by rw [hall]; simp)
    have hfr : ek.fresh = true := by
      cases hf : ek.fresh with
      | true => rfl
      | false => unfold Evt.conf at hno; simp [hw, hcl, hf] at hno
    -- a new block's handle is the next one
    have hnxk : h = (T.st k).2.nx := by
      have hs := T.step k ops[k] (Array.getElem?_eq_getElem hk')
      rcases stepD_cases hs with ⟨_, _, _, h4⟩ | ⟨v, d, _, _, _, _, h4⟩
      · rw [h4] at hek; cases hek
      · rw [h4] at hek
        injection hek with hek
        subst hek
        cases d with
        | op d =>
          cases d with
          | none => simp [evt] at hw
          | some p =>
            obtain ⟨h0, b⟩ := p
            simp [evt] at hw hfr
            omega
        | call e =>
          cases e with
          | clean => simp [evt] at hw
          | made b => simp [evt] at hw; exact hw.symm
          | full H' => simp [evt] at hw
    rw [hnxk]
    exact X.nx (i + 1) k (by omega) (by omega)
  have hsame : ∀ h, h < (T.st (i + 1)).2.nx → BlS T S h = (T.st i).2.bl h := by
    intro h hh
    refine bl_at T hile (fun k hk hw => hbef h k hk hw) (fun k hk hk' hw => ?_)
    cases hS : S k with
    | false => rfl
    | true => have := haft h k hk hk' hw hS; omega
  have hnx : (T.st i).2.nx ≤ (T.st (i + 1)).2.nx := X.nx i (i + 1) (by omega) hi
  have hlt : ∀ h, (T.st i).2.bl h ≠ .none → h < (T.st i).2.nx := by
    intro h hn
    rcases Nat.lt_or_ge h (T.st i).2.nx with h1 | h1
    · exact h1
    · exact absurd (X.none hile h1) hn
  have hVbl : ∀ h, (T.st i).2.bl h ≠ .none → V.bl h = (T.st i).2.bl h := fun h hn => by
    rw [D.bl]; exact hsame h (Nat.lt_of_lt_of_le (hlt h hn) hnx)
  have up : ∀ b : Blk, b.live → b ≠ .none := by intro b hb e; subst e; exact hb
  -- what the call sees
  let Vc : View := ⟨V.w, V.mu, (T.st i).2.bl, fun b => V.hid b ∨ ∃ h, (T.st i).2.bl h = .none ∧ (V.bl h).live ∧ V.mu h = b⟩
  have hownc : ∀ b, own Vc b → own V b := by
    rintro b ((hh | ⟨h, _, h2, h3⟩) | ⟨h, h2, h3⟩)
    · exact .inl hh
    · exact .inr ⟨h, h2, h3⟩
    · exact .inr ⟨h, by rw [hVbl h (up _ h2)]; exact h2, h3⟩
  have hsub : Sub (T.st i).2.bl V Vc := ⟨rfl, fun h hn => ⟨hn, (hVbl h hn).symm, rfl⟩, hownc⟩
  have HVc : HR Vc := by
    refine HR.sub hsub D.hr (fun h _ => X.scopedB hile h) (fun b hb => ?_)
    rcases hb with hh | ⟨h, h1, h2, h3⟩
    · exact ⟨(D.hr.hid b hh).1, fun j hj => (D.hr.hid b hh).2 j (by rw [hVbl j (up _ hj)]; exact hj)⟩
    · refine ⟨h3 ▸ D.hr.lt h2, fun j hj e => ?_⟩
      have := D.hr.inj j h (by rw [hVbl j (up _ hj)]; exact hj) h2 (e.trans h3.symm)
      subst this
      exact up _ hj h1
  have Sc : SitH Vc (T.st i).2 := ⟨rfl, fun h hh => X.none hile hh, HVc⟩
  have hargs' : ASR Vc args vals := ⟨hargs.len, fun j x hx => (hargs.get j x hx).sub hsub (hsa x (List.mem_of_getElem? hx))⟩
  refine inv_upon hF (hc F hF (n - 1) _ _ _ _ _ hcall Vc _ _ Sc (hfv.sub hsub hsf) hargs') (fun v' w' hR => ?_) (fun _ _ h => h) (fun _ h => h)
  obtain ⟨V2, rfl, T2, S2, hv2⟩ := hR
  -- what it leaves, and what was hidden
  have hV2i : ∀ h, (T.st i).2.bl h ≠ .none → V2.bl h = (T.st i).2.bl h := by
    intro h hn
    rw [S2.bl]
    rcases he with rfl | ⟨b, rfl⟩
    · rfl
    · have : h ≠ (T.st i).2.nx := by have := hlt h hn; omega
      exact upd_ne _ _ this
  have hV2n : ∀ h, (T.st i).2.bl h = .none → V.bl h ≠ .none → V2.bl h = .none := by
    intro h hn hV
    rw [S2.bl]
    rcases he with rfl | ⟨b, rfl⟩
    · exact hn
    · have : h ≠ (T.st i).2.nx := by
        intro e
        apply hV
        rw [D.bl, hsame h (by rw [hst2, e]; exact Nat.le_max_right _ _)]
        exact hn
      exact (upd_ne _ _ this).trans hn
  let V3 : View := ⟨V2.w, fun h => if V2.bl h = .none then V.mu h else V2.mu h, fun h => if V2.bl h = .none then V.bl h else V2.bl h, V.hid⟩
  have b3y : ∀ h, V2.bl h ≠ .none → V3.bl h = V2.bl h ∧ V3.mu h = V2.mu h := fun h hn => ⟨if_neg hn, if_neg hn⟩
  have b3n : ∀ h, V2.bl h = .none → V3.bl h = V.bl h ∧ V3.mu h = V.mu h := fun h hn => ⟨if_pos hn, if_pos hn⟩
  have hhid : ∀ h, V2.bl h = .none → (V.bl h).live → V2.hid (V.mu h) ∧ V2.w.heap[V.mu h]? = V.w.heap[V.mu h]? := by
    intro h hn hl
    refine T2.ext.hidk (V.mu h) (.inr ⟨h, ?_, hl, rfl⟩)
    by_cases hb : (T.st i).2.bl h = .none
    · exact hb
    · rw [hV2i h hb] at hn; exact hn
  have hVh : ∀ b, V.hid b → V2.hid b ∧ V2.w.heap[b]? = V.w.heap[b]? := fun b hb => T2.ext.hidk b (.inl hb)
  have own3 : ∀ b, own V3 b → own V2 b := by
    rintro b (hh | ⟨h, hl, hm⟩)
    · exact .inl (hVh b hh).1
    · by_cases hn : V2.bl h = .none
      · obtain ⟨h1, h2⟩ := b3n h hn
        rw [h1] at hl
        rw [h2] at hm
        exact .inl (hm ▸ (hhid h hn hl).1)
      · obtain ⟨h1, h2⟩ := b3y h hn
        rw [h1] at hl
        rw [h2] at hm
        exact .inr ⟨h, hl, hm⟩
  have E23 : ExtW V2 V3 := by
    refine ⟨fun b C e fr hb hno => ⟨rfl, fun h => hno (own3 b h)⟩, fun h => ?_⟩
    by_cases hn : V2.bl h = .none
    · unfold Turn; rw [hn]; trivial
    · exact .of_same (b3y h hn).1 (b3y h hn).2 (fun _ => rfl)
  have E03 : Ext V V3 := by
    refine ⟨⟨T2.ext.size, fun b hb hno => ?_, fun h => ?_⟩, T2.ext.io, fun b hb => ⟨hb, (hVh b hb).2⟩⟩
    · obtain ⟨h1, h2⟩ := T2.ext.keep b hb (fun h => hno (hownc b h))
      exact ⟨h1, fun h => h2 (own3 b h)⟩
    · by_cases hb : (T.st i).2.bl h = .none
      · by_cases hV : V.bl h = .none
        · unfold Turn; rw [hV]; trivial
        · have hn := hV2n h hb hV
          exact .of_same (b3n h hn).1 (b3n h hn).2 (fun hl => (hhid h hn hl).2)
      · have hn : V2.bl h ≠ .none := by rw [hV2i h hb]; exact hb
        have t := T2.ext.turn h
        have t2 : Turn V V2 h := by
          unfold Turn at t ⊢
          have e : V.bl h = Vc.bl h := hVbl h hb
          rw [e]
          exact t
        exact t2.congr (b3y h hn).1 (b3y h hn).2 rfl
  have H3 : HR V3 := by
    refine ⟨fun h => ?_, fun h h' hl hl' hm => ?_, fun b hb => ⟨(S2.hr.hid b (hVh b hb).1).1, fun h hl e => ?_⟩⟩
    · by_cases hn : V2.bl h = .none
      · rw [(b3n h hn).1, (b3n h hn).2]
        cases hb : V.bl h with
        | none => trivial
        | dead => trivial
        | _ => rw [← hb]; exact (D.hr.holds h).mono E03 (hhid h hn (by rw [hb]; trivial)).2
      · rw [(b3y h hn).1, (b3y h hn).2]
        exact (S2.hr.holds h).mono0 E23 rfl
    · by_cases hn : V2.bl h = .none <;> by_cases hn' : V2.bl h' = .none
      · rw [(b3n h hn).1] at hl
        rw [(b3n h' hn').1] at hl'
        rw [(b3n h hn).2, (b3n h' hn').2] at hm
        exact D.hr.inj _ _ hl hl' hm
      · rw [(b3n h hn).1] at hl
        rw [(b3y h' hn').1] at hl'
        rw [(b3n h hn).2, (b3y h' hn').2] at hm
        exact absurd hm.symm ((S2.hr.hid _ (hhid h hn hl).1).2 h' hl')
      · rw [(b3y h hn).1] at hl
        rw [(b3n h' hn').1] at hl'
        rw [(b3y h hn).2, (b3n h' hn').2] at hm
        exact absurd hm ((S2.hr.hid _ (hhid h' hn' hl').1).2 h hl)
      · rw [(b3y h hn).1] at hl
        rw [(b3y h' hn').1] at hl'
        rw [(b3y h hn).2, (b3y h' hn').2] at hm
        exact S2.hr.inj _ _ hl hl' hm
    · by_cases hn : V2.bl h = .none
      · rw [(b3n h hn).1] at hl
        rw [(b3n h hn).2] at e
        exact (D.hr.hid b hb).2 h hl e
      · rw [(b3y h hn).1] at hl
        rw [(b3y h hn).2] at e
        exact (S2.hr.hid b (hVh b hb).1).2 h hl e
  obtain ⟨M, hM⟩ := D.bd
  refine k _ V3 (D.next N ht ho hd hst1 E03 H3 (hv2.mono0 E23) ?_ (fun h h4 h5 => ?_) ⟨max M (e.app (T.st i).2).nx, fun h hh => ?_⟩)
  · funext h
    have hblS : BlS T S' h = if wrs T h i = true then (e.app (T.st i).2).bl h else V.bl h := by
      by_cases hw : wrs T h i = true
      · obtain ⟨ei, hei, hw'⟩ := wrs_iff.1 hw
        have hw2 : ei.wr = some h := by
          rw [hevi] at hei; injection hei with hei; subst hei
          exact hw'.resolve_right (by rw [hnall]; simp)
        rw [bl_more T hi N.more (N.bl_later hei (.inl hw2)), if_pos hw, if_pos hw, hst2]
      · rw [bl_same T N.more (by simpa using hw), if_neg hw, D.bl]
    rw [hblS]
    have hwi : wrs T h i = true ↔ ∃ b, e = .made b ∧ h = (T.st i).2.nx := by
      rw [wrs_iff]
      constructor
      · rintro ⟨ei, hei, hw⟩
        rw [hev] at hei; injection hei with hei; subst hei
        rcases he with rfl | ⟨b, rfl⟩
        · simp [evt] at hw
        · simp [evt] at hw; exact ⟨b, rfl, hw.symm⟩
      · rintro ⟨b, rfl, rfl⟩
        exact ⟨_, hev, .inl rfl⟩
    by_cases hw : wrs T h i = true
    · rw [if_pos hw, ← S2.bl]
      by_cases hn : V2.bl h = .none
      · rw [(b3n h hn).1, hn]
        obtain ⟨b, _, rfl⟩ := hwi.1 hw
        by_cases hV : V.bl (T.st i).2.nx = .none
        · exact hV
        · obtain ⟨b', rfl, _⟩ := hwi.1 hw
          exfalso
          apply hV
          rw [D.bl, hsame _ (by rw [hst2]; exact Nat.le_max_right _ _)]
          exact X.none hile (Nat.le_refl _)
      · exact (b3y h hn).1
    · rw [if_neg hw]
      by_cases hn : V2.bl h = .none
      · exact (b3n h hn).1
      · rw [(b3y h hn).1]
        by_cases hb : (T.st i).2.bl h = .none
        · exfalso
          apply hn
          rw [S2.bl]
          rcases he with rfl | ⟨b, rfl⟩
          · exact hb
          · have : h ≠ (T.st i).2.nx := fun e => hw (hwi.2 ⟨b, rfl, e⟩)
            exact (upd_ne _ _ this).trans hb
        · rw [hV2i h hb, hVbl h hb]
  · by_cases hb : (T.st i).2.bl h = .none
    · have hn := hV2n h hb h5
      exact b3n h hn
    · have hn : V2.bl h ≠ .none := by rw [hV2i h hb]; exact hb
      have hlo : h < (e.app (T.st i).2).lo := by
        have := X.lo (i + 1) ops.size hi (Nat.le_refl _)
        rw [hst2] at this
        exact Nat.lt_of_lt_of_le h4 this
      obtain ⟨h6, h7⟩ := T2.keep h hlo hb
      exact ⟨(b3y h hn).1.trans (h6.trans (hVbl h hb).symm), (b3y h hn).2.trans h7⟩
  · have hn : V2.bl h = .none := by rw [S2.bl]; exact S2.nx h (by omega)
    rw [(b3n h hn).1]
    exact hM h (by omega)

end
end Go.AM
