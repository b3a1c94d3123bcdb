/- One operation more has come up, whatever the order. -/
import Derived.Test.YthcdhdgpokikfaaAmDraw3
namespace Go.AM

section
variable {P : Program} {call : CallFn} {ops : Array Oper}

/-- What is got out of an operation's walk that ends in one way alone. -/
theorem wpOpIn_some {F : Fence} (hF : Fine F) {n : Nat} {i : Nat} {K : Act → World → Prop} {a : Act} {w : World} (h : wpOpIn F n P ops (fun _ _ _ => False) i K a w) : ∃ a' w', K a' w' := by
  unfold wpOpIn at h
  split at h
  · exact ⟨_, _, h⟩
  · split at h
    · obtain ⟨_, h⟩ := h
      unfold Oper.uponIn at h
      split at h
      · exact ⟨_, _, h⟩
      · exact ⟨_, _, h⟩
      · exact ⟨_, _, h⟩
      · obtain ⟨_, h⟩ := h
        obtain ⟨e, w', fr, hR, _⟩ := h.2 [] (hF.room _)
        cases e with
        | returned v => exact ⟨_, _, hR⟩
        | panicked _ => exact hR.elim
        | outgrown => obtain ⟨_, _, hq⟩ := hR; exact hq.elim
      · obtain ⟨_, h⟩ := h
        obtain ⟨v, w', hR, _⟩ := h default [] (hF.room _)
        exact ⟨_, _, hR⟩
      · obtain ⟨_, h⟩ := h
        obtain ⟨e, w', hR, _⟩ := h.2 default [] (hF.room _)
        cases e with
        | returned v => exact ⟨_, _, hR⟩
        | panicked _ => exact hR.elim
        | outgrown => obtain ⟨_, _, hq⟩ := hR; exact hq.elim
      · exact h.elim
      · exact h.elim
    · exact ⟨_, _, h.2⟩

/-- The region in its text's order: what is known of each place in it. -/
structure Text (T : Trace P call ops) : Prop where
  sit : ∀ k, k ≤ ops.size → ∃ (V : View) (ts : Array Value), SitH V (T.st k).2 ∧ ER V (T.st k).1 ts
  nx : ∀ i j, i ≤ j → j ≤ ops.size → (T.st i).2.nx ≤ (T.st j).2.nx
  lo : ∀ i j, i ≤ j → j ≤ ops.size → (T.st j).2.lo ≤ (T.st i).2.lo

theorem text_of (hc : CallOk P call) {F : Fence} (hF : Fine F) (T : Trace P call ops) {V : View} {base : Nat} {a : Act} (S : Sit V (T.st 0).2 (T.st 0).1 F.round base a) (hd : ∀ o ∈ ops.toList, dstOk a.tmps.size o = true) : Text T := by
  have step : ∀ k, k < ops.size → ∀ (V : View) (a1 : Act), Sit V (T.st k).2 (T.st k).1 F.round base a1 → a1.tmps.size = a.tmps.size →
      ∃ (V' : View) (a' : Act), Sit V' (T.st (k + 1)).2 (T.st (k + 1)).1 F.round base a' ∧ a'.tmps.size = a.tmps.size ∧ (T.st k).2.nx ≤ (T.st (k + 1)).2.nx ∧ (T.st (k + 1)).2.lo ≤ (T.st k).2.lo := by
    intro k hk V a1 S1 hsz
    have ho := Array.getElem?_eq_getElem hk
    have h := stepD_wp hc hF (n := 0) (i := k) ho (Q := fun _ _ _ => False) (K := fun a' w' => ∃ V' : View, Sit V' (T.st (k + 1)).2 (T.st (k + 1)).1 F.round base a' ∧ a'.tmps.size = a.tmps.size ∧ (T.st k).2.nx ≤ (T.st (k + 1)).2.nx ∧ (T.st (k + 1)).2.lo ≤ (T.st k).2.lo) S1 (by rw [hsz]; exact hd _ (by simp)) (T.step k _ ho)
      (fun V' a' hst S' hs => ⟨V', S', hs.trans hsz, hst.nx, hst.lo⟩)
    obtain ⟨a', w', V', h1⟩ := wpOpIn_some hF h
    exact ⟨V', a', h1⟩
  have all : ∀ k, k ≤ ops.size → ∃ (V : View) (a1 : Act), Sit V (T.st k).2 (T.st k).1 F.round base a1 ∧ a1.tmps.size = a.tmps.size := by
    intro k
    induction k with
    | zero => intro _; exact ⟨V, a, S, rfl⟩
    | succ k ih =>
      intro hk
      obtain ⟨V1, a1, S1, h1⟩ := ih (by omega)
      obtain ⟨V2, a2, S2, h2, _⟩ := step k hk V1 a1 S1 h1
      exact ⟨V2, a2, S2, h2⟩
  have one : ∀ k, k < ops.size → (T.st k).2.nx ≤ (T.st (k + 1)).2.nx ∧ (T.st (k + 1)).2.lo ≤ (T.st k).2.lo := by
    intro k hk
    obtain ⟨V1, a1, S1, h1⟩ := all k (by omega)
    obtain ⟨V2, a2, S2, h2, h3⟩ := step k hk V1 a1 S1 h1
    exact h3
  refine ⟨fun k hk => ?_, fun i j hij hj => ?_, fun i j hij hj => ?_⟩
  · obtain ⟨V1, a1, S1, _⟩ := all k hk
    exact ⟨V1, a1.tmps, S1.toSitH, S1.er⟩
  · induction j with
    | zero => have : i = 0 := by omega
              rw [this]; exact Nat.le_refl _
    | succ j ih =>
      by_cases h : i = j + 1
      · rw [h]; exact Nat.le_refl _
      · exact Nat.le_trans (ih (by omega) (by omega)) (one j hj).1
  · induction j with
    | zero => have : i = 0 := by omega
              rw [this]; exact Nat.le_refl _
    | succ j ih =>
      by_cases h : i = j + 1
      · rw [h]; exact Nat.le_refl _
      · exact Nat.le_trans (one j hj).2 (ih (by omega) (by omega))

variable {T : Trace P call ops}
theorem Text.none (X : Text T) {k h : Nat} (hk : k ≤ ops.size) (hh : (T.st k).2.nx ≤ h) : (T.st k).2.bl h = .none := by
  obtain ⟨V, ts, S, _⟩ := X.sit k hk
  exact S.nx h hh
theorem Text.scopedE (X : Text T) {k : Nat} (hk : k ≤ ops.size) (t : Nat) : ScV (T.st k).2.bl ((T.st k).1 t) := by
  obtain ⟨V, ts, S, R⟩ := X.sit k hk
  rw [← S.bl]; exact (R t).inSc
theorem Text.scopedB (X : Text T) {k : Nat} (hk : k ≤ ops.size) (h : Nat) : ScB (T.st k).2.bl ((T.st k).2.bl h) := by
  obtain ⟨V, ts, S, R⟩ := X.sit k hk
  rw [← S.bl]; exact (S.hr.holds h).inSc

/-- What holds when the operations of S have come up. -/
structure DI (T : Trace P call ops) (F : Fence) (base N0 : Nat) (V0 : View) (S : Nat → Bool) (a : Act) (V : View) : Prop where
  bl : V.bl = BlS T S
  hr : HR V
  er : ER V (EnvS T S) a.tmps
  dr : DR V base a.defers
  rd : RdR V F.round
  sz : a.tmps.size = N0
  ext : Ext V0 V
  keep : ∀ h, h < (T.st ops.size).2.lo → V0.bl h ≠ .none → V.bl h = V0.bl h ∧ V.mu h = V0.mu h
  bd : ∃ M, ∀ h, M ≤ h → V.bl h = .none

variable {F : Fence} {base N0 : Nat} {V0 : View} {S S' : Nat → Bool} {i : Nat}

/-- The operation has come up: a new view. -/
theorem DI.next {a : Act} {V : View} (D : DI T F base N0 V0 S a V) (N : Now ops S S' i) (ht : tempOk ops = true) {o : Oper} (ho : ops[i]? = some o) (hd : dstOk N0 o = true) {v : AV} (hv : (T.st (i + 1)).1 = putE (T.st i).1 o.dst v)
    {V' : View} {v' : Value} (E : Ext V V') (hr : HR V') (hvr : VR V' v v') (hbl : V'.bl = BlS T S')
    (hk : ∀ h, h < (T.st ops.size).2.lo → V.bl h ≠ .none → V'.bl h = V.bl h ∧ V'.mu h = V.mu h) (hbd : ∃ M, ∀ h, M ≤ h → V'.bl h = .none) : DI T F base N0 V0 S' (a.put o.dst v') V' := by
  have hdst : ∀ d, o.dst = some d → d < a.tmps.size := by
    intro d he; unfold dstOk at hd; rw [he] at hd; rw [D.sz]; simpa using hd
  refine ⟨hbl, hr, ?_, ?_, D.rd.mono E, (put_size ..).trans D.sz, D.ext.trans E, fun h h1 h2 => ?_, hbd⟩
  · rw [N.env' ht ho hv]; exact (D.er.mono E).put hvr hdst
  · rw [put_defers]; exact D.dr.mono E
  · obtain ⟨h3, h4⟩ := D.keep h h1 h2
    obtain ⟨h5, h6⟩ := hk h h1 (by rw [h3]; exact h2)
    exact ⟨h5.trans h3, h6.trans h4⟩

/-- The temporaries that the operation names hold what they hold in the text's order. -/
theorem named {a : Act} {V : View} (D : DI T F base N0 V0 S a V) (N : Now ops S S' i) (ht : tempOk ops = true) {o : Oper} (ho : ops[i]? = some o) :
    ∃ env : Env, ER V env a.tmps ∧ (∀ x ∈ o.op.operands, evo env x = evo (T.st i).1 x) ∧ wantedA ops env o = wantedA ops (T.st i).1 o := by
  refine ⟨fun t => if t ∈ namesOf ops o then (T.st i).1 t else .bad, fun t => ?_, fun x hx => ?_, ?_⟩
  · simp only
    split
    · rename_i hn
      rw [← N.env ht ho hn]; exact D.er t
    · exact .bad _
  · cases x with
    | tmp t =>
      simp only [evo]
      rw [if_pos]
      unfold namesOf
      simp only [List.mem_append, List.mem_filterMap]
      exact .inl (.inr ⟨.tmp t, by simpa using hx, rfl⟩)
    | _ => rfl
  · unfold wantedA
    split
    · rfl
    · rename_i j want hg
      split
      · rename_i d hd
        have : d ∈ namesOf ops o := by
          unfold namesOf
          simp only [List.mem_append, hg, hd]
          exact .inr (by simp)
        simp only [if_pos this]
      · rfl
end
end Go.AM
