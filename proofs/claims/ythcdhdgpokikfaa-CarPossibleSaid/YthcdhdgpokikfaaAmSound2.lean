/- How a call ends: its results, the rounds' blocks, what it hands back. -/
import Derived.Test.YthcdhdgpokikfaaAmSound1
namespace Go.AM

theorem run_lmapM {α β : Type} {P : Program} {f : α → Sem β} {w : World} : ∀ {l : List α} {r : List β}, r.length = l.length → (∀ (i : Nat) x, l[i]? = some x → ∃ y, r[i]? = some y ∧ (f x).run P w = .ok y w) → (l.mapM f).run P w = .ok r w := by
  intro l
  induction l with
  | nil => intro r h _; cases r with | nil => simp [Sem.run_pure] | cons _ _ => simp at h
  | cons a l ih =>
    intro r h hg
    cases r with
    | nil => simp at h
    | cons b r =>
      obtain ⟨y, hy, hr⟩ := hg 0 a rfl
      simp at hy
      subst hy
      have := ih (r := r) (by simpa using h) (fun i x hx => by simpa using hg (i + 1) x (by simpa using hx))
      simp [List.mapM_cons, Sem.run_bind, hr, Result.andThen, this]
theorem run_amapM {α β : Type} {P : Program} {f : α → Sem β} {w : World} {l : Array α} {r : List β} (h : r.length = l.size) (hg : ∀ (i : Nat) x, l.toList[i]? = some x → ∃ y, r[i]? = some y ∧ (f x).run P w = .ok y w) : (l.mapM f).run P w = .ok r.toArray w := by
  rw [Array.mapM_eq_mapM_toList]
  have := run_lmapM (P := P) (f := f) (w := w) (l := l.toList) (r := r) (by simpa using h) hg
  rw [map_eq_pure_bind, Sem.run_bind, this]
  rfl

/-- What is handed back, one or many. -/
theorem single_vr {V : View} {xs : List AV} {vs : List Value} (hl : xs.length = vs.length) (h : ∀ (i : Nat) x, xs[i]? = some x → VR V x (vs.toArray.getD i undef)) :
    VR V (single xs) (if h : vs.toArray.size = 1 then vs.toArray[0] else .tuple vs.toArray) := by
  cases xs with
  | nil =>
    have hv : vs = [] := by cases vs with | nil => rfl | cons _ _ => simp at hl
    subst hv
    simp only [single, List.size_toArray, List.length_nil, Nat.zero_ne_one, dif_neg, not_false_eq_true]
    exact .tup rfl (fun i x hx => by simp at hx)
  | cons x xs =>
    cases xs with
    | nil =>
      have h1 : vs.toArray.size = 1 := by simp at hl; simpa using hl.symm
      rw [dif_pos h1]
      have := h 0 x rfl
      simp only [single]
      have e : vs.toArray.getD 0 undef = vs.toArray[0] := by simp [Array.getD, h1]
      rw [← e]; exact this
    | cons y xs =>
      have h1 : ¬ vs.toArray.size = 1 := by simp at hl; simp; omega
      rw [dif_neg h1]
      exact .tup (by simpa using hl) h

theorem results_sound {P : Program} {V : View} (H : HR V) {env : Env} {tmps : Array Value} (R : ER V env tmps) {fn : Func} {xs : List AV} (h : resultsA P fn env V.bl = some xs) :
    ∃ v, (results fn tmps).run P V.w = .ok v V.w ∧ VR V (single xs) v := by
  unfold resultsA at h
  obtain ⟨h1, h2⟩ := mapM_get h
  have key : ∀ (i : Nat), i < xs.length → ∃ y : Value, VR V (xs.getD i .und) y ∧ ∀ x, fn.results.toList[i]? = some x → ((match x with
      | .tmp t => pure (tmps.getD t undef)
      | .cell a t => do loadVar t (← asAddr (tmps.getD a undef)) : Sem Value)).run P V.w = .ok y V.w := by
    intro i hi
    have hlt : i < fn.results.toList.length := by omega
    obtain ⟨x, hx1, hx2⟩ := h2 i _ (List.getElem?_eq_getElem hlt)
    have hxs : xs.getD i .und = x := by simp [List.getD, hx2]
    rw [hxs]
    cases hr : fn.results.toList[i] with
    | tmp t =>
      rw [hr] at hx1
      simp only at hx1
      injection hx1 with hx1
      subst hx1
      exact ⟨_, R t, fun x hx => by rw [List.getElem?_eq_getElem hlt, hr] at hx; injection hx with hx; subst hx; simp [Sem.run_pure]⟩
    | cell a t =>
      rw [hr] at hx1
      simp only at hx1
      split at hx1
      · rename_i p hp
        have hc := cell_sound (R a) hp
        split at hx1
        · rename_i s ha hs
          obtain ⟨cs, hcs, rfl⟩ := Option.map_eq_some_iff.1 hx1
          obtain ⟨ad, us, hv, hrun, hcsr⟩ := run_loadVarA H hc ha hs hcs
          refine ⟨_, .agg hcsr.len hcsr.get, fun x hx => ?_⟩
          rw [List.getElem?_eq_getElem hlt, hr] at hx; injection hx with hx; subst hx
          simp only [hv, asAddr, Sem.run_bind, Sem.run_pure, Result.andThen]
          exact hrun
        · rename_i _ ha
          split at hx1
          · rename_i c hcs
            injection hx1 with hx1
            subst hx1
            obtain ⟨ad, u, hv, hrun, hcu⟩ := run_loadVar1 H hc ha hcs
            refine ⟨_, .one hcu, fun x hx => ?_⟩
            rw [List.getElem?_eq_getElem hlt, hr] at hx; injection hx with hx; subst hx
            simp only [hv, asAddr, Sem.run_bind, Sem.run_pure, Result.andThen]
            exact hrun
          · cases hx1
        · cases hx1
      · cases hx1
  have : ∃ vs : List Value, vs.length = xs.length ∧ ∀ i, i < xs.length → VR V (xs.getD i .und) (vs.getD i undef) ∧ ∀ x, fn.results.toList[i]? = some x → ((match x with
      | .tmp t => pure (tmps.getD t undef)
      | .cell a t => do loadVar t (← asAddr (tmps.getD a undef)) : Sem Value)).run P V.w = .ok (vs.getD i undef) V.w := by
    have : ∀ n, n ≤ xs.length → ∃ vs : List Value, vs.length = n ∧ ∀ i, i < n → VR V (xs.getD i .und) (vs.getD i undef) ∧ ∀ x, fn.results.toList[i]? = some x → ((match x with
      | .tmp t => pure (tmps.getD t undef)
      | .cell a t => do loadVar t (← asAddr (tmps.getD a undef)) : Sem Value)).run P V.w = .ok (vs.getD i undef) V.w := by
      intro n
      induction n with
      | zero => exact fun _ => ⟨[], rfl, fun i hi => absurd hi (by omega)⟩
      | succ n ih =>
        intro hn
        obtain ⟨vs, hl, hv⟩ := ih (by omega)
        obtain ⟨y, hy1, hy2⟩ := key n (by omega)
        refine ⟨vs ++ [y], by simp [hl], fun i hi => ?_⟩
        by_cases hin : i = n
        · subst hin
          have : (vs ++ [y]).getD i undef = y := by simp [List.getD, ← hl]
          rw [this]; exact ⟨hy1, hy2⟩
        · have : (vs ++ [y]).getD i undef = vs.getD i undef := by
            simp only [List.getD]; rw [List.getElem?_append_left (by omega)]
          rw [this]; exact hv i (by omega)
    exact this _ (Nat.le_refl _)
  obtain ⟨vs, hl, hv⟩ := this
  have hrun : (fn.results.mapM fun
    | .tmp t => pure (tmps.getD t undef)
    | .cell a t => do loadVar t (← asAddr (tmps.getD a undef)) : Sem (Array Value)).run P V.w = .ok vs.toArray V.w := by
    refine run_amapM (by simp at h1; omega) (fun i x hx => ?_)
    have hi : i < xs.length := by have := (List.getElem?_eq_some_iff.1 hx).1; omega
    refine ⟨vs.getD i undef, ?_, (hv i hi).2 x hx⟩
    have : i < vs.length := by omega
    simp [List.getD, this]
  refine ⟨_, ?_, single_vr (V := V) (xs := xs) (vs := vs) hl.symm (fun i x hx => ?_)⟩
  · unfold results
    rw [Sem.run_bind]
    exact Eq.trans (congrArg (fun r : Result (Array Value) => r.andThen (fun a w' => Sem.run P (pure (if h : a.size = 1 then a[0] else Value.tuple a)) w')) hrun) rfl
  · have hi := (List.getElem?_eq_some_iff.1 hx).1
    have := (hv i hi).1
    have e1 : xs.getD i .und = x := by simp [List.getD, hx]
    have e2 : vs.toArray.getD i undef = vs.getD i undef := by simp [Array.getD_eq_getD_getElem?, List.getD]
    rw [e1] at this
    rw [e2]; exact this

/-- A round's block is shut. -/
theorem shut {V : View} (H : HR V) {r : Nat} (hr : V.w.heap[r]? = some (.deferred (some []))) (ho : ¬ own V r) :
    let V' : View := ⟨V.w.putObj r (.deferred none), V.mu, V.bl, V.hid⟩
    ExtW V V' ∧ HR V' ∧ V.w.heap.size = V'.w.heap.size ∧ ∀ b, b ≠ r → V'.w.heap[b]? = V.w.heap[b]? := by
  intro V'
  have hne : ∀ b, b ≠ r → V'.w.heap[b]? = V.w.heap[b]? := fun b hb => World.putObj_heap_other hb
  have hlive : ∀ h, (V.bl h).live → V.mu h ≠ r := fun h hl e => ho (.inr ⟨h, hl, e⟩)
  have E : ExtW V V' := by
    refine ⟨fun b C e fr hb hn => ⟨hne b (fun hbr => ?_), hn⟩, fun h => ?_⟩
    · subst hbr; rw [hr] at hb; cases hb
    · exact .of_same rfl rfl (fun hl => hne _ (hlive h hl))
  refine ⟨E, ⟨fun h => ?_, H.inj, fun b hb => ⟨by simp only [V', World.putObj_size]; exact (H.hid b hb).1, (H.hid b hb).2⟩⟩, by simp [V'], hne⟩
  show Holds V' (V.mu h) (V.bl h)
  cases hb : V.bl h with
  | none => trivial
  | dead => trivial
  | _ => rw [← hb]; exact (H.holds h).mono0 E (hne _ (hlive h (by rw [hb]; trivial)))

/-- All rounds' blocks are shut; then what is asked is asked of the world that is left. -/
theorem marks_sound {P : Program} {F : Fence} {n : Nat} {fn : Func} {tmps : Array Value} {R : Ending → World → Prop} {base : Nat} : ∀ (rs : List Nat) (V : View), HR V → rs.Nodup → (∀ r ∈ rs, (V.w.heap[r]? = some (.deferred (some [])) ∧ ¬ own V r) ∧ base ≤ r) →
    (∀ V' : View, ExtW V V' → HR V' → V'.mu = V.mu → V'.bl = V.bl → V'.hid = V.hid → V.w.heap.size = V'.w.heap.size → Wio V.w V'.w → (∀ b, b < base ∨ own V b → V'.w.heap[b]? = V.w.heap[b]?) → ∃ v, (results fn tmps).run P V'.w = .ok v V'.w ∧ R (.returned v) V'.w) →
    LeavesInM F n P fn tmps R (rs.map (fun r => { target := .collected r, args := #[] })) .returning V.w := by
  intro rs
  induction rs with
  | nil =>
    intro V H _ _ k
    exact k V (Ext.refl V).toW H rfl rfl rfl rfl ⟨rfl, rfl, rfl⟩ (fun _ _ => rfl)
  | cons r rs ih =>
    intro V H hnd hr k
    obtain ⟨⟨h1, h2⟩, h3⟩ := hr r (by simp)
    obtain ⟨E, H', hs, hne⟩ := shut H h1 h2
    have hnd' := List.nodup_cons.1 hnd
    refine ⟨by simp, .inl ⟨r, V.w.putObj r (.deferred none), rfl, run_takeDeferred h1, ?_⟩⟩
    refine ih ⟨V.w.putObj r (.deferred none), V.mu, V.bl, V.hid⟩ H' hnd'.2 (fun r' hr' => ?_) (fun V2 E2 H2 hm hb hh hs2 hi2 hk => ?_)
    · have hrr : r' ≠ r := fun e => hnd'.1 (e ▸ hr')
      obtain ⟨⟨h4, h5⟩, h6⟩ := hr r' (by simp [hr'])
      exact ⟨⟨(hne r' hrr).trans h4, h5⟩, h6⟩
    · refine k V2 ⟨fun b C e fr hb' hn => ?_, fun h => (E.turn h).trans (E2.turn h)⟩ H2 hm hb hh (hs.trans hs2) hi2 (fun b hb' => ?_)
      · obtain ⟨e1, n1⟩ := E.keepC b C e fr hb' hn
        obtain ⟨e2, n2⟩ := E2.keepC b C e fr (e1.trans hb') n1
        exact ⟨e2.trans e1, n2⟩
      · have hbr : b ≠ r := by
          rcases hb' with hb' | hb'
          · omega
          · intro e; subst e; exact h2 hb'
        exact (hk b hb').trans (hne b hbr)

end Go.AM
