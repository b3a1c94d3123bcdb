/- What a call hands back. -/
import Derived.Test.YthcdhdgpokikfaaAmSound2
namespace Go.AM

theorem frzCs_sound {V1 V' : View} {nx : Nat} (hr : HR V1) {bl0 : Nat → Blk} (hsub : Sub bl0 V1 V') (hown : ∀ b, own V' b → V1.hid b ∨ ∃ h, h < nx ∧ (V1.bl h).live ∧ V1.mu h = b) {x x' : AV} {v : Value} (hx : VR V1 x v) (h : frzV V1.bl nx x = some x') : VR V' x' v := by
  cases hx with
  | one hc =>
    obtain ⟨c', hc', rfl⟩ := Option.map_eq_some_iff.1 h
    exact .one (.ro (frz_sound hr hsub hown _ _ _ _ hc hc'))
  | @agg cs vs h1 h2 =>
    obtain ⟨cs', hcs', rfl⟩ := Option.map_eq_some_iff.1 h
    obtain ⟨h3, h4⟩ := mapM_get hcs'
    refine .agg (by omega) (fun i c hc => ?_)
    have hlt : i < cs.length := by have := (List.getElem?_eq_some_iff.1 hc).1; omega
    obtain ⟨y, hy, hy2⟩ := h4 i _ (List.getElem?_eq_getElem hlt)
    rw [hc] at hy2
    injection hy2 with hy2
    subst hy2
    exact .ro (frz_sound hr hsub hown _ _ _ _ (h2 i _ (List.getElem?_eq_getElem hlt)) hy)
  | und => simp only [frzV] at h; injection h with h; subst h; exact .und
  | tup _ _ => simp [frzV] at h
  | bad => simp [frzV] at h
theorem frzR_sound {V1 V' : View} {nx : Nat} (hr : HR V1) {bl0 : Nat → Blk} (hsub : Sub bl0 V1 V') (hown : ∀ b, own V' b → V1.hid b ∨ ∃ h, h < nx ∧ (V1.bl h).live ∧ V1.mu h = b) {x x' : AV} {v : Value} (hx : VR V1 x v) (h : frzR V1.bl nx x = some x') : VR V' x' v := by
  unfold frzR at h
  split at h
  · rename_i xs
    obtain ⟨xs', hxs', rfl⟩ := Option.map_eq_some_iff.1 h
    obtain ⟨h3, h4⟩ := mapM_get hxs'
    cases hx with
    | @tup _ vs h1 h2 =>
      refine .tup (by omega) (fun i c hc => ?_)
      have hlt : i < xs.length := by have := (List.getElem?_eq_some_iff.1 hc).1; omega
      obtain ⟨y, hy, hy2⟩ := h4 i _ (List.getElem?_eq_getElem hlt)
      rw [hc] at hy2
      injection hy2 with hy2
      subst hy2
      exact frzCs_sound hr hsub hown (h2 i _ (List.getElem?_eq_getElem hlt)) hy
  · exact frzCs_sound hr hsub hown hx h

theorem frz0_sound {V : View} {c c' : Cell} {v : Value} (hc : CR V c v) (h : frz0 c = some c') : RO V.w (own V) c' v := by
  unfold frz0 at h
  split at h
  · injection h with h; subst h
    obtain ⟨rfl, hp⟩ := hc.sc_inv
    exact .sc hp
  · injection h with h; subst h
    obtain ⟨A, rfl⟩ := hc.e0_inv
    exact .e0
  · injection h with h; subst h
    cases hc with
    | ro hc => exact hc
  · injection h with h; subst h
    cases hc with
    | ro hc => exact hc
    | @fn _ _ _ p' q' h1 h2 h3 h4 =>
      have e1 : p' = #[] := Array.eq_empty_of_size_eq_zero (by simpa using h1.symm)
      have e2 : q' = #[] := Array.eq_empty_of_size_eq_zero (by simpa using h2.symm)
      subst e1 e2
      exact .fn
  · cases h

theorem Turn.congr {V V1 V2 : View} {h : Nat} (t : Turn V V1 h) (hb : V2.bl h = V1.bl h) (hm : V2.mu h = V1.mu h) (hw : V2.w = V1.w) : Turn V V2 h := by
  unfold Turn at t ⊢
  cases hv : V.bl h <;> rw [hv] at t <;> simp only [hb, hm, hw] <;> exact t

theorem keepRow_some {bl : Nat → Blk} {nx : Nat} {r : AV} {n : Nat} {b : Blk} (h : keepRow bl nx r = some (n, b)) :
    ∃ hd sz rows rows', r = .one (.sl hd n 0 n) ∧ nx ≤ hd ∧ bl hd = .arr sz rows ∧ rows.length = n ∧ (rows.mapM fun r => List.mapM frz0 r) = some rows' ∧ b = .arr sz rows' := by
  unfold keepRow at h
  split at h
  · rename_i hd n' len
    split at h
    · rename_i hc
      split at h
      · rename_i sz rows hb
        split at h
        · rename_i hl
          obtain ⟨rows', hm, he⟩ := Option.map_eq_some_iff.1 h
          injection he with h1 h2
          subst h1
          exact ⟨hd, sz, rows, rows', by rw [hc.2], hc.1, hb, hl, hm, h2.symm⟩
        · cases h
      · cases h
    · cases h
  · cases h

theorem made_sound {V V1 : View} {H H1 : AH} {r0 : AV} {v : Value} {n : Nat} {b : Blk} (S : SitH V H) (S1 : SitH V1 H1) (T : Step V ⟨H.nx, H.bl, H.nx⟩ V1 H1) (hlo : H.nx ≤ H1.lo) (hv : VR V1 r0 v) (hk : keepRow H1.bl H.nx r0 = some (n, b)) :
    ∃ V' : View, V'.w = V1.w ∧ Step V H V' (H.app (some (H.nx, b))) ∧ SitH V' (H.app (some (H.nx, b))) ∧ VR V' (.one (.sl H.nx n 0 n)) v := by
  obtain ⟨hd, sz, rows, rows', rfl, hnx, hb1, hl, hm, rfl⟩ := keepRow_some hk
  have hbV1 : V1.bl hd = .arr sz rows := by rw [S1.bl]; exact hb1
  have hlive : (V1.bl hd).live := by rw [hbV1]; trivial
  have hVnx : ∀ j, V.bl j ≠ .none → j < H.nx := by
    intro j hn
    rcases Nat.lt_or_ge j H.nx with h1 | h1
    · exact h1
    · exact absurd (by rw [S.bl]; exact S.nx j h1) hn
  have hkeep : ∀ j, V.bl j ≠ .none → V1.bl j = V.bl j ∧ V1.mu j = V.mu j := fun j hn => T.keep j (Nat.lt_of_lt_of_le (hVnx j hn) hlo) hn
  have hup : ∀ j, (V.bl j).live → V.bl j ≠ .none := by intro j hj e; rw [e] at hj; exact hj
  have hmu : ∀ j, (V.bl j).live → V.mu j ≠ V1.mu hd := by
    intro j hj e
    obtain ⟨h1, h2⟩ := hkeep j (hup j hj)
    have := S1.hr.inj j hd (by rw [h1]; exact hj) hlive (by rw [h2]; exact e)
    have := hVnx j (hup j hj)
    omega
  have hnot : ¬ own V (V1.mu hd) := by
    rintro (hh | ⟨j, hj, e⟩)
    · exact (S1.hr.hid _ (T.ext.hidk _ hh).1).2 hd hlive rfl
    · exact hmu j hj e
  have hge : V.w.heap.size ≤ V1.mu hd := by
    rcases Nat.lt_or_ge (V1.mu hd) V.w.heap.size with h1 | h1
    · exact absurd (.inr ⟨hd, hlive, rfl⟩) (T.ext.keep _ h1 hnot).2
    · exact h1
  obtain ⟨_, hTb, _, _⟩ := sit_back S S1 T hlo
  let V' : View := ⟨V1.w, upd V.mu H.nx (V1.mu hd), upd V.bl H.nx (.arr sz rows'), V.hid⟩
  have hsame : ∀ j, V.bl j ≠ .none → V'.bl j = V.bl j ∧ V'.mu j = V.mu j := by
    intro j hn
    have : j ≠ H.nx := by have := hVnx j hn; omega
    exact ⟨upd_ne _ _ this, upd_ne _ _ this⟩
  have hlv : ∀ j, (V'.bl j).live → j = H.nx ∨ (V.bl j).live := by
    intro j hj
    by_cases e : j = H.nx
    · exact .inl e
    · right; simp only [V', upd_ne _ _ e] at hj; exact hj
  have hown1 : ∀ b, own V' b → own V1 b := by
    rintro b (hh | ⟨j, hj, rfl⟩)
    · exact .inl (T.ext.hidk b hh).1
    · rcases hlv j hj with rfl | hj'
      · simp only [V', upd_same]; exact .inr ⟨hd, hlive, rfl⟩
      · obtain ⟨h1, h2⟩ := hkeep j (hup j hj')
        rw [(hsame j (hup j hj')).2]
        exact .inr ⟨j, by rw [h1]; exact hj', h2⟩
  have hsub : Sub V.bl V1 V' := ⟨rfl, fun j hn => by
    obtain ⟨h1, h2⟩ := hkeep j hn
    obtain ⟨h3, h4⟩ := hsame j hn
    exact ⟨by rw [h3]; exact hn, by rw [h3, h1], by rw [h4, h2]⟩, hown1⟩
  obtain ⟨m1, m2⟩ := mapM_get hm
  have hrow : ∀ (i j : Nat) (c : Cell), rc rows' i j = some c → ∃ c0, rc rows i j = some c0 ∧ frz0 c0 = some c := by
    intro i j c hc
    obtain ⟨r', h1, h2⟩ := rc_some hc
    have hi : i < rows.length := by rw [← m1]; exact (List.getElem?_eq_some_iff.1 h1).1
    obtain ⟨y, hy, hy2⟩ := m2 i _ (List.getElem?_eq_getElem hi)
    rw [h1] at hy2; injection hy2 with hy2; subst hy2
    obtain ⟨k1, k2⟩ := mapM_get hy
    have hj : j < rows[i].length := by rw [← k1]; exact (List.getElem?_eq_some_iff.1 h2).1
    obtain ⟨z, hz, hz2⟩ := k2 j _ (List.getElem?_eq_getElem hj)
    rw [h2] at hz2; injection hz2 with hz2; subst hz2
    exact ⟨_, by unfold rc; rw [List.getElem?_eq_getElem hi]; exact List.getElem?_eq_getElem hj, hz⟩
  have hHR : HR V' := by
    refine ⟨fun j => ?_, fun j j' hj hj' he => ?_, fun b hb => ⟨Nat.lt_of_lt_of_le (S.hr.hid b hb).1 T.ext.size, fun j hj e => ?_⟩⟩
    · by_cases hjn : j = H.nx
      · subst hjn
        simp only [V', upd_same]
        obtain ⟨w0, C, e, w1, w2, w3⟩ := S1.hr.at hbV1
        refine ⟨fun r hr => ?_, C, e, w1, by rw [m1]; exact w2, fun i j c hc => ?_⟩
        · obtain ⟨i, hi⟩ := List.getElem?_of_mem hr
          have hlt : i < rows.length := by rw [← m1]; exact (List.getElem?_eq_some_iff.1 hi).1
          obtain ⟨y, hy, hy2⟩ := m2 i _ (List.getElem?_eq_getElem hlt)
          rw [hi] at hy2; injection hy2 with hy2; subst hy2
          rw [(mapM_get hy).1]
          exact w0 _ (List.getElem_mem _)
        · obtain ⟨c0, h1, h2⟩ := hrow i j c hc
          exact .ro ((frz0_sound (w3 i j c0 h1) h2).mono (fun b _ _ _ _ hn => ⟨rfl, fun ho => hn (hown1 b ho)⟩))
      · by_cases hn : V.bl j = .none
        · have : V'.bl j = .none := by simp only [V', upd_ne _ _ hjn]; exact hn
          rw [this]; trivial
        · obtain ⟨h1, h2⟩ := hkeep j hn
          obtain ⟨h3, h4⟩ := hsame j hn
          rw [h3, h4]
          have := S1.hr.holds j
          rw [h1, h2] at this
          exact this.sub hsub (S.hr.holds j).inSc
    · rcases hlv j hj with rfl | h1 <;> rcases hlv j' hj' with rfl | h2
      · rfl
      · rw [(hsame j' (hup _ h2)).2] at he
        simp only [V', upd_same] at he
        exact absurd he.symm (hmu j' h2)
      · rw [(hsame j (hup _ h1)).2] at he
        simp only [V', upd_same] at he
        exact absurd he (hmu j h1)
      · rw [(hsame j (hup _ h1)).2, (hsame j' (hup _ h2)).2] at he
        exact S.hr.inj _ _ h1 h2 he
    · rcases hlv j hj with rfl | h1
      · simp only [V', upd_same] at e
        exact hnot (.inl (e ▸ hb))
      · rw [(hsame j (hup _ h1)).2] at e
        exact (S.hr.hid b hb).2 j h1 e
  have hExt : Ext V V' := by
    refine ⟨⟨T.ext.size, fun b hb ho => ⟨(T.ext.keep b hb ho).1, ?_⟩, fun j => ?_⟩, T.ext.io, fun b hb => ⟨hb, (T.ext.hidk b hb).2⟩⟩
    · rintro (hh | ⟨j, hj, e⟩)
      · exact ho (.inl hh)
      · rcases hlv j hj with rfl | h1
        · simp only [V', upd_same] at e; omega
        · rw [(hsame j (hup _ h1)).2] at e
          exact ho (.inr ⟨j, h1, e⟩)
    · by_cases hjn : j = H.nx
      · subst hjn; unfold Turn; rw [S.bl, S.nx _ (Nat.le_refl _)]; trivial
      · exact (hTb.ext.turn j).congr (upd_ne _ _ hjn) (upd_ne _ _ hjn) rfl
  refine ⟨V', rfl, ⟨hExt, Nat.min_le_left _ _, Nat.le_max_left _ _, fun j _ hn => hsame j hn⟩, ⟨by simp only [V', AH.app, S.bl], fun j hj => ?_, hHR⟩, ?_⟩
  · have hj' : max H.nx (H.nx + 1) ≤ j := hj
    simp only [AH.app]
    rw [upd_ne _ _ (by omega)]
    exact S.nx j (by omega)
  · cases hv with
    | one hc =>
      cases hc with
      | ro hc => cases hc
      | sl g1 g2 g3 =>
        obtain ⟨g4, g5⟩ := g3 _ _ hbV1
        obtain ⟨g6, cap', cells, e, fr, g7, g8, g9, g10⟩ := g5 hl
        refine .one (.sl (by simp only [V', upd_same]; simp) g2 (fun sz'' rows'' hb'' => ?_))
        simp only [V', upd_same] at hb''
        injection hb'' with q1 q2
        subst q1 q2
        refine ⟨by omega, fun _ => ⟨g6, cap', cells, e, fr, by simp only [V', upd_same]; exact g7, g8, g9, by simp only [V', upd_same]; exact g10⟩⟩

theorem finish_sound {V V1 : View} {H H1 : AH} {keep : Bool} {r0 r : AV} {e : Eff} {v : Value} (S : SitH V H) (S1 : SitH V1 H1) (T : Step V ⟨H.nx, H.bl, H.nx⟩ V1 H1) (hv : VR V1 r0 v) (h : finish keep H H1 r0 = (r, e)) :
    ∃ V' : View, V'.w = V1.w ∧ Step V H V' (e.app H) ∧ SitH V' (e.app H) ∧ VR V' r v := by
  have full : ∃ V' : View, V'.w = V1.w ∧ Step V H V' ⟨H1.nx, H1.bl, min H.lo H1.lo⟩ ∧ SitH V' ⟨H1.nx, H1.bl, min H.lo H1.lo⟩ ∧ VR V' r0 v :=
    ⟨V1, rfl, ⟨T.ext, Nat.min_le_left _ _, T.nx, fun j hj hn => T.keep j (Nat.lt_of_lt_of_le hj (Nat.min_le_right _ _)) hn⟩, ⟨S1.bl, S1.nx, S1.hr⟩, hv⟩
  unfold finish at h
  split at h
  · injection h with h1 h2
    subst h1 h2
    exact full
  · rename_i hlo
    have hlo : H.nx ≤ H1.lo := Nat.le_of_not_lt hlo
    split at h
    · rename_i n b hk
      injection h with h1 h2
      subst h1 h2
      split at hk
      · exact made_sound S S1 T hlo hv hk
      · cases hk
    · split at h
      · rename_i r' hf
        injection h with h1 h2
        subst h1 h2
        obtain ⟨h3, h4, h5, h6⟩ := sit_back S S1 T hlo
        rw [← S1.bl] at hf
        exact ⟨⟨V1.w, V.mu, V.bl, V.hid⟩, rfl, h4, h5, frzR_sound S1.hr h3 h6 hv hf⟩
      · injection h with h1 h2
        subst h1 h2
        exact full

end Go.AM
