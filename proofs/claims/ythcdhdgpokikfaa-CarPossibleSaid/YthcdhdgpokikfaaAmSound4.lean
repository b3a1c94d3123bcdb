/- Calls; rounds; ranges over functions. -/
import Derived.Test.YthcdhdgpokikfaaAmSound3
import Derived.LoopNIn
namespace Go.AM

def AX.exit : AX → Exit
  | .normal => .normal
  | .jump .ret => .ret
  | .jump (.exit id) => .exit id
  | .jump (.goto l) => .goto l

def XPost (V : View) (H : AH) (x : AX) (env' : Env) (H' : AH) (ro : Option Nat) (base N : Nat) : Exit → Act → World → Prop := fun e a' w' =>
  e = x.exit ∧ ∃ V' : View, V'.w = w' ∧ Step V H V' H' ∧ Sit V' H' env' ro base a' ∧ a'.tmps.size = N

def ExecOk (P : Program) (ex : Code → Env → AH → Option (AX × Env × AH)) : Prop := ∀ (F : Fence), Fine F → ∀ (n : Nat) (c : Code) (env : Env) (H : AH) (x : AX) (env' : Env) (H' : AH), ex c env H = some (x, env', H') →
  ∀ (V : View) (a : Act) (base : Nat), Sit V H env F.round base a → codeOk a.tmps.size c = true → base ≤ V.w.heap.size → c.wpIn F n P (XPost V H x env' H' F.round base a.tmps.size) a V.w

theorem dstOk_mono {N M : Nat} (h : N ≤ M) {o : Oper} (ho : dstOk N o = true) : dstOk M o = true := by
  unfold dstOk at ho ⊢
  cases hd : o.dst with
  | none => rfl
  | some d => rw [hd] at ho; simp only [decide_eq_true_eq] at ho ⊢; exact Nat.lt_of_lt_of_le ho h
theorem codeOk_mono {N M : Nat} (h : N ≤ M) {c : Code} (hc : codeOk N c = true) : codeOk M c = true := by
  induction c with
  | region id ops draw =>
    simp only [codeOk, Bool.and_eq_true, List.all_eq_true] at hc ⊢
    exact ⟨fun o ho => dstOk_mono h (hc.1 o ho), hc.2⟩
  | seq a b iha ihb => simp only [codeOk, Bool.and_eq_true] at hc ⊢; exact ⟨iha hc.1, ihb hc.2⟩
  | cond x a b iha ihb => simp only [codeOk, Bool.and_eq_true] at hc ⊢; exact ⟨iha hc.1, ihb hc.2⟩
  | block id b ih => simp only [codeOk] at hc ⊢; exact ih hc
  | loop b ih => simp only [codeOk] at hc ⊢; exact ih hc
  | scope b ih => simp only [codeOk] at hc ⊢; exact ih hc
  | rangeFunc g ps as bd iha ihb =>
    simp only [codeOk, Bool.and_eq_true, List.all_eq_true, decide_eq_true_eq] at hc ⊢
    exact ⟨⟨fun t ht => Nat.lt_of_lt_of_le (hc.1.1 t ht) h, iha hc.1.2⟩, ihb hc.2⟩
  | _ => rfl

theorem enter_er {V : View} {args : List AV} {vals : Array Value} (h : ASR V args vals) (m : Nat) : ER V (fun t => args.getD t .und) (vals ++ Array.replicate m undef) := by
  intro t
  show VR V (args.getD t .und) _
  by_cases ht : t < args.length
  · have e1 : args.getD t .und = args[t] := by simp [List.getD, ht]
    have hs : t < vals.size := by have := h.len; omega
    have e2 : (vals ++ Array.replicate m undef).getD t undef = vals.getD t undef := by
      simp only [Array.getD_eq_getD_getElem?]
      rw [Array.getElem?_append_left hs]
    rw [e1, e2]
    exact h.get t _ (List.getElem?_eq_getElem ht)
  · have e1 : args.getD t .und = .und := by simp [List.getD, ht]
    have hs : vals.size ≤ t := by have := h.len; omega
    have e2 : (vals ++ Array.replicate m undef).getD t undef = undef := by
      simp only [Array.getD_eq_getD_getElem?]
      rw [Array.getElem?_append_right hs, Array.getElem?_replicate]
      split <;> rfl
    rw [e1, e2]
    exact .und

theorem acall_sound {P : Program} (hp : progOk P = true) {ex : Code → Env → AH → Option (AX × Env × AH)} (hx : ExecOk P ex) {F : Fence} (hF : Fine F) {n : Nat} {f : FuncId} {fn : Func} {c : Code} {args : List AV} {H H1 : AH} {x : AX} {env' : Env} {keep : Bool} {xs : List AV} {r : AV} {e : Eff}
    (hf : P.funcs[f]? = some fn) (hb : fn.body = some c) (hex : ex c (fun t => args.getD t .und) ⟨H.nx, H.bl, H.nx⟩ = some (x, env', H1)) (hxr : x = .normal ∨ x = .jump .ret)
    (hres : resultsA P fn env' H1.bl = some xs) (hfin : finish keep H H1 (single xs) = (r, e)) {V : View} {vals : Array Value} (S : SitH V H) (A : ASR V args vals) :
    CallsIn F n P f vals V.w (CallPost V H r e) := by
  have hcok : codeOk (vals ++ Array.replicate (fn.ntmps - vals.size) undef).size c = true := by
    have h1 : codeOk fn.ntmps c = true := by
      unfold progOk at hp
      have := all_get hp fn (by
        have := Array.getElem?_eq_some_iff.1 hf
        obtain ⟨h1, h2⟩ := this
        rw [← h2]; simp)
      rw [hb] at this
      exact this
    refine codeOk_mono ?_ h1
    simp; omega
  have S0 : Sit V ⟨H.nx, H.bl, H.nx⟩ (fun t => args.getD t .und) F.plain.round V.w.heap.size { tmps := vals ++ Array.replicate (fn.ntmps - vals.size) undef, defers := [] } :=
    ⟨⟨S.bl, S.nx, S.hr⟩, enter_er A _, DR.nil _ _, fun l hl => by cases hl⟩
  have hwp := hx F.plain hF.plain n c _ _ _ _ _ hex V _ _ S0 hcok (Nat.le_refl _)
  have : CallsIn F.plain n P f vals V.w (CallPost V H r e) := by
    refine callsIn_of_wp_marks hf hb (hF.fn f) (wpIn_mono hwp (fun ext a' w' hq => ?_)) rfl
    obtain ⟨he, V1, rfl, T, S1, hsz⟩ := hq
    have goal : LeavesInM F.plain n P fn a'.tmps (CallPost V H r e) a'.defers .returning V1.w := by
      obtain ⟨rs, hds, hnd, hr⟩ := S1.dr
      rw [hds]
      refine marks_sound rs V1 S1.hr hnd hr (fun V2 E2 H2 hm hbl hh hs hi hk => ?_)
      have hres2 : resultsA P fn env' V2.bl = some xs := by rw [hbl, S1.bl]; exact hres
      obtain ⟨v, hrun, hv⟩ := results_sound H2 (S1.er.mono0 E2) hres2
      refine ⟨v, hrun, ?_⟩
      have hown : ∀ b, own V2 b ↔ own V1 b := by intro b; unfold own; rw [hm, hbl, hh]
      have T2 : Step V ⟨H.nx, H.bl, H.nx⟩ V2 H1 := by
        refine ⟨⟨⟨by rw [← hs]; exact T.ext.size, fun b hb ho => ?_, fun h => (T.ext.turn h).trans (E2.turn h)⟩, T.ext.io.trans hi, fun b hb => ?_⟩, T.lo, T.nx, fun h hl hn => ?_⟩
        · obtain ⟨h1, h2⟩ := T.ext.keep b hb ho
          exact ⟨(hk b (.inl hb)).trans h1, fun h3 => h2 ((hown b).1 h3)⟩
        · obtain ⟨h1, h2⟩ := T.ext.hidk b hb
          exact ⟨by rw [hh]; exact h1, (hk b (.inr (.inl h1))).trans h2⟩
        · obtain ⟨h1, h2⟩ := T.keep h hl hn
          exact ⟨by rw [hbl]; exact h1, by rw [hm]; exact h2⟩
      exact finish_sound S ⟨hbl.trans S1.bl, S1.nx, H2⟩ T2 hv hfin
    rcases hxr with rfl | rfl
    · subst he; exact goal
    · subst he; exact goal
  exact this

theorem run_callFunc {P : Program} {f : FuncId} {fn : Func} {c : Code} (hf : P.funcs[f]? = some fn) (hb : fn.body = some c) (hn : (fn.name == "runtime.NumGoroutine") = false) (args : Array Value) (w : World) :
    (callFunc f args).run P w = .ok (.enter f args) w := by
  unfold callFunc
  have hn' : ¬ fn.name = "runtime.NumGoroutine" := by simpa using hn
  simp [Sem.run_bind, program, Sem.run, hf, hn', hb, Result.andThen, Sem.run_pure]

/-- What is asked of calls of functions. -/
def ACallOk (P : Program) (ac : FuncId → List AV → AH → Option (AV × Eff)) : Prop := ∀ (F : Fence), Fine F → ∀ (n : Nat) (f : FuncId) (args : List AV) (H : AH) (r : AV) (e : Eff), ac f args H = some (r, e) →
  ∀ (V : View) (vals : Array Value), SitH V H → ASR V args vals → (∀ w, (callFunc f vals).run P w = .ok (.enter f vals) w) ∧ CallsIn F n P f vals V.w (CallPost V H r e)

theorem cells_asr {V : View} {p : List Cell} {p' : Array Value} (hl : p.length = p'.size) (h : ∀ (i : Nat) c, p[i]? = some c → CR V c (p'.getD i undef)) : ASR V (p.map .one) p' := by
  refine ⟨by simpa using hl, fun i x hx => ?_⟩
  rw [List.getElem?_map] at hx
  obtain ⟨y, hy, rfl⟩ := Option.map_eq_some_iff.1 hx
  exact .one (h i y hy)
theorem ASR.append {V : View} {xs ys : List AV} {us vs : Array Value} (h1 : ASR V xs us) (h2 : ASR V ys vs) : ASR V (xs ++ ys) (us ++ vs) := by
  refine ⟨by simp [h1.len, h2.len], fun i x hx => ?_⟩
  have hl := h1.len
  by_cases hi : i < xs.length
  · rw [List.getElem?_append_left hi] at hx
    have : (us ++ vs).getD i undef = us.getD i undef := by
      simp only [Array.getD_eq_getD_getElem?]; rw [Array.getElem?_append_left (by omega)]
    rw [this]; exact h1.get i x hx
  · rw [List.getElem?_append_right (by omega)] at hx
    have : (us ++ vs).getD i undef = vs.getD (i - xs.length) undef := by
      simp only [Array.getD_eq_getD_getElem?]; rw [Array.getElem?_append_right (by omega), hl]
    rw [this]; exact h2.get _ x hx

theorem setParams_er {V : View} : ∀ {ps : List Nat} {args : List AV} {vals : List Value} {env : Env} {ts : Array Value}, ER V env ts → ps.length = args.length → args.length = vals.length → (∀ (i : Nat) x, args[i]? = some x → VR V x (vals.getD i undef)) → (∀ t ∈ ps, t < ts.size) →
    ER V (setParams env ps args) ((ps.zip vals).foldl (fun tmps (t, a) => tmps.setIfInBounds t a) ts) ∧ ((ps.zip vals).foldl (fun tmps (t, a) => tmps.setIfInBounds t a) ts).size = ts.size := by
  intro ps
  induction ps with
  | nil => intro args vals env ts R _ _ _ _; exact ⟨by unfold setParams; exact R, rfl⟩
  | cons t ps ih =>
    intro args vals env ts R h1 h2 h3 h4
    cases args with
    | nil => simp at h1
    | cons x args =>
      cases vals with
      | nil => simp at h2
      | cons v vals =>
        have hput : ER V (putE env (some t) x) ((⟨ts, []⟩ : Act).put (some t) v).tmps := ER.put (a := ⟨ts, []⟩) R (by simpa using h3 0 x rfl) (fun d hd => by injection hd with hd; subst hd; exact h4 t (by simp))
        have := ih (args := args) (vals := vals) (env := upd env t x) (ts := ts.setIfInBounds t v) hput (by simpa using h1) (by simpa using h2) (fun i y hy => by simpa using h3 (i + 1) y (by simpa using hy)) (fun u hu => by simpa using h4 u (by simp [hu]))
        simp only [setParams, List.zip_cons_cons, List.foldl_cons]
        exact ⟨this.1, by rw [this.2]; simp⟩

end Go.AM
