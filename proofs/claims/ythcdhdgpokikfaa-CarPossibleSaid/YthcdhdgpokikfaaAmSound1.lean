/- What one operation of a region does. -/
import Derived.Test.YthcdhdgpokikfaaAmFrz
import Derived.RangeFuncRecord
namespace Go.AM

structure Fine (F : Fence) : Prop where
  fn : ∀ f, F.fn f
  depth : F.depth = none
theorem Fine.room {F : Fence} (h : Fine F) (k : Nat) : F.room k := fun d hd => by rw [h.depth] at hd; cases hd
theorem Fine.le1 {F : Fence} (h : Fine F) {n : Nat} : F.depth.isSome = true → 1 ≤ n := by rw [h.depth]; intro h; cases h
theorem Fine.inRound {F : Fence} (h : Fine F) (l : Nat) : Fine (F.inRound l) := ⟨h.fn, h.depth⟩
theorem Fine.plain {F : Fence} (h : Fine F) : Fine F.plain := ⟨h.fn, h.depth⟩

structure ASR (V : View) (xs : List AV) (vs : Array Value) : Prop where
  len : xs.length = vs.size
  get : ∀ (i : Nat) (x : AV), xs[i]? = some x → VR V x (vs.getD i undef)
theorem ASR.mono {V V' : View} (E : Ext V V') {xs : List AV} {vs : Array Value} (h : ASR V xs vs) : ASR V' xs vs := ⟨h.len, fun i x hx => (h.get i x hx).mono E⟩

def CallPost (V : View) (H : AH) (r : AV) (e : Eff) : Ending → World → Prop
  | .returned v, w' => ∃ V' : View, V'.w = w' ∧ Step V H V' (e.app H) ∧ SitH V' (e.app H) ∧ VR V' r v
  | _, _ => False

def InvOk (F : Fence) (n : Nat) (P : Program) (s : Sem Next) (w : World) (R : Ending → World → Prop) : Prop :=
  (∃ f args, s.run P w = .ok (.enter f args) w ∧ CallsIn F n P f args w R) ∨
  (∃ l f tmps as bd, s.run P w = .ok (.round l f tmps as bd) w ∧ RoundIn F n P l f tmps as bd w R)

def calling (fv : Value) (vals : Array Value) : Sem Next := do
  let d ← Deferred.ofValue fv vals
  invoke d.target d.args

def CallOk (P : Program) (call : CallFn) : Prop := ∀ (F : Fence), Fine F → ∀ (n : Nat) (fc : Cell) (args : List AV) (H : AH) (r : AV) (e : Eff), call fc args H = some (r, e) →
  ∀ (V : View) (fv : Value) (vals : Array Value), SitH V H → CR V fc fv → ASR V args vals → InvOk F n P (calling fv vals) V.w (CallPost V H r e)

theorem aop_defer {P : Program} {nw : Nat} {bl : Nat → Blk} {env : Env} {o : Oper} {c : Call} (h : o.op = .defer c) : aop P nw bl env o = none := by
  unfold aop
  rw [h]

theorem args_sound {V : View} {env : Env} {a : Act} (R : ER V env a.tmps) (args : Array Operand) : ASR V (args.toList.map (evo env)) (args.map a.eval) := by
  refine ⟨by simp, fun i x hx => ?_⟩
  rw [List.getElem?_map] at hx
  obtain ⟨y, hy, rfl⟩ := Option.map_eq_some_iff.1 hx
  have hlt : i < args.size := by have := (List.getElem?_eq_some_iff.1 hy).1; simpa using this
  have he : args[i] = y := by simpa [hlt] using hy
  have : (args.map a.eval).getD i undef = a.eval y := by simp [Array.getD, hlt, he]
  rw [this]
  exact evo_sound R y

theorem step1_wp {P : Program} {call : CallFn} (hc : CallOk P call) {F : Fence} (hF : Fine F) {n : Nat} {o : Oper} {a : Act} {env : Env} {V : View} {H : AH} {v : AV} {d : Del}
    {K : Act → World → Prop} {Q : Exit → Act → World → Prop} (S : SitH V H) (R : ER V env a.tmps) (h : step1 P call env H o = some (v, d))
    (k : ∀ (V' : View) (v' : Value), Step V H V' (d.app H) → SitH V' (d.app H) → VR V' v v' → K (a.put o.dst v') V'.w) : o.wpIn F n P a V.w K Q := by
  unfold step1 at h
  refine ⟨fun f _ => hF.fn f, ?_⟩
  split at h
  · rename_i f args ats hop
    have hd : ∀ c, o.op ≠ .defer c := by intro c hc; rw [hop] at hc; cases hc
    rw [Oper.semAt_eq _ _ _ hd]
    split at h
    · rename_i fc hfc
      obtain ⟨⟨r, e⟩, hcall, he⟩ := Option.map_eq_some_iff.1 h
      injection he with h1 h2
      subst h1 h2
      have hex : execOp a.eval o = calling (a.eval f) (args.map a.eval) := by unfold execOp; rw [hop]; rfl
      rw [hex]
      rcases hc F hF (n - 1) _ _ _ _ _ hcall V _ _ S (cell_sound (evo_sound R f) hfc) (args_sound R args) with ⟨g, xs, hr, hg⟩ | ⟨l, g, ts, as, bd, hr, hg⟩
      · rw [hr]
        refine ⟨hF.le1, hg.mono (fun e w' he => ?_)⟩
        cases e with
        | returned v' =>
          obtain ⟨V', rfl, h1, h2, h3⟩ := he
          exact k V' v' h1 h2 h3
        | panicked _ => exact he.elim
        | outgrown => exact he.elim
      · rw [hr]
        refine ⟨hF.le1, hg.mono (fun e w' he => ?_)⟩
        cases e with
        | returned v' =>
          obtain ⟨V', rfl, h1, h2, h3⟩ := he
          exact k V' v' h1 h2 h3
        | panicked _ => exact he.elim
        | outgrown => exact he.elim
    · cases h
  · obtain ⟨⟨r, e⟩, hop, he⟩ := Option.map_eq_some_iff.1 h
    injection he with h1 h2
    subst h1 h2
    have hd : ∀ c, o.op ≠ .defer c := by intro c hc; rw [aop_defer hc] at hop; cases hop
    rw [Oper.semAt_eq _ _ _ hd]
    rw [← S.bl] at hop
    obtain ⟨r', w', mu', v', hrun, hr', hE, hH, hv, hk⟩ := aop_sound S.hr R (by rw [S.bl]; exact S.nx _ (Nat.le_refl _)) hop
    obtain ⟨h1, h2⟩ := step_app S hE hH hk
    rw [hrun]
    rcases hr' with rfl | ⟨rfl, rfl⟩
    · exact k _ v' h1 h2 hv
    · exact k _ undef h1 h2 hv

theorem ER.put {V : View} {env : Env} {a : Act} (R : ER V env a.tmps) {dst : Option Tmp} {v : AV} {v' : Value} (hv : VR V v v') (hd : ∀ d, dst = some d → d < a.tmps.size) :
    ER V (putE env dst v) (a.put dst v').tmps := by
  cases dst with
  | none => exact R
  | some d =>
    intro t
    have hlt := hd d rfl
    simp only [putE, Act.put]
    by_cases ht : t = d
    · subst ht
      rw [upd_same]
      have : (a.tmps.setIfInBounds t v').getD t undef = v' := by simp [Array.getD, hlt]
      rw [this]; exact hv
    · rw [upd_ne _ _ ht]
      have : (a.tmps.setIfInBounds d v').getD t undef = a.tmps.getD t undef := by
        simp only [Array.getD_eq_getD_getElem?]
        rw [Array.getElem?_setIfInBounds_ne (Ne.symm ht)]
      rw [this]; exact R t

theorem put_size (a : Act) (dst : Option Tmp) (v : Value) : (a.put dst v).tmps.size = a.tmps.size := by
  cases dst <;> simp [Act.put]
theorem put_defers (a : Act) (dst : Option Tmp) (v : Value) : (a.put dst v).defers = a.defers := by
  cases dst <;> simp [Act.put]

theorem wanted_sound {V : View} {env : Env} {a : Act} (R : ER V env a.tmps) {ops : Array Oper} {o : Oper} {b : Bool} (h : wantedA ops env o = some b) :
    Region.wanted o (yielded ops a.tmps) = b := by
  unfold wantedA at h
  unfold Region.wanted
  split at h
  · rename_i hg
    injection h with h
    rw [hg]; exact h
  · rename_i j want hg
    rw [hg]
    simp only
    unfold yielded
    split at h
    · rename_i d hd
      rw [hd]
      simp only [Option.bind_some]
      have := R d
      split at h
      · rename_i b' hb
        injection h with h
        rw [hb] at this
        have hv := toV_sound this _ rfl
        have : a.tmps[d]? = some (.bool b') := by
          rw [Array.getD_eq_getD_getElem?] at hv
          cases hx : a.tmps[d]? with
          | none => rw [hx] at hv; simp [undef] at hv
          | some u => rw [hx] at hv; simp at hv; rw [hv]
        rw [this, ← h]
        cases b' <;> cases want <;> rfl
      · rename_i hb
        injection h with h
        rw [hb] at this
        have hu : a.tmps[d]? = none ∨ a.tmps[d]? = some undef := by
          cases hx : a.tmps[d]? with
          | none => exact .inl rfl
          | some u =>
            rw [Array.getD_eq_getD_getElem?, hx] at this
            simp at this
            cases this
            exact .inr rfl
        subst h
        rcases hu with hu | hu <;> rw [hu] <;> rfl
      · cases h
    · cases h

/-- One operation of a region, its guard looked at. -/
theorem stepD_wp {P : Program} {call : CallFn} (hc : CallOk P call) {F : Fence} (hF : Fine F) {n : Nat} {ops : Array Oper} {i : Nat} {o : Oper} (ho : ops[i]? = some o) {a : Act} {env env' : Env} {V : View} {H H' : AH} {ev : Option Evt}
    {base : Nat} {K : Act → World → Prop} {Q : Exit → Act → World → Prop} (S : Sit V H env F.round base a) (hd : dstOk a.tmps.size o = true) (h : stepD P call ops o env H = some (env', H', ev))
    (k : ∀ (V' : View) (a' : Act), Step V H V' H' → Sit V' H' env' F.round base a' → a'.tmps.size = a.tmps.size → K a' V'.w) : wpOpIn F n P ops Q i K a V.w := by
  have hdst : ∀ d, o.dst = some d → d < a.tmps.size := by
    intro d he; unfold dstOk at hd; rw [he] at hd; simpa using hd
  unfold stepD at h
  unfold wpOpIn
  rw [ho]
  simp only
  split at h
  · rename_i hw
    rw [wanted_sound S.er hw, if_pos rfl]
    split at h
    · rename_i v d hs
      injection h with h; injection h with h1 h2; injection h2 with h2 h3
      subst h1 h2
      refine step1_wp hc hF S.toSitH S.er hs (fun V' v' h4 h5 h6 => k V' _ h4 ⟨h5, (S.er.mono h4.ext).put h6 hdst, ?_, S.rd.mono h4.ext⟩ (put_size ..))
      rw [put_defers]; exact S.dr.mono h4.ext
    · cases h
  · rename_i hw
    injection h with h; injection h with h1 h2; injection h2 with h2 h3
    subst h1 h2
    rw [wanted_sound S.er hw, if_neg (by simp)]
    refine ⟨fun f _ => hF.fn f, k V _ (Step.refl ..) ⟨S.toSitH, S.er.put .und hdst, ?_, S.rd⟩ (put_size ..)⟩
    rw [put_defers]; exact S.dr
  · cases h

theorem aops_wp {P : Program} {call : CallFn} (hc : CallOk P call) {F : Fence} (hF : Fine F) {n : Nat} {ops : Array Oper} {base : Nat} {Q : Exit → Act → World → Prop} :
    ∀ (m i : Nat), m + i = ops.size → ∀ (a : Act) (env env' : Env) (V : View) (H H' : AH), Sit V H env F.round base a → (∀ o ∈ ops.toList, dstOk a.tmps.size o = true) → aops P call ops (ops.toList.drop i) env H = some (env', H') →
      (∀ (V' : View) (a' : Act), Step V H V' H' → Sit V' H' env' F.round base a' → a'.tmps.size = a.tmps.size → Q .normal a' V'.w) → wpOpsIn F n P ops Q (List.range' i m) a V.w := by
  intro m
  induction m with
  | zero =>
    intro i hi a env env' V H H' S hd h k
    have : ops.toList.drop i = [] := by apply List.drop_eq_nil_of_le; simp; omega
    rw [this] at h
    simp only [aops] at h
    injection h with h; injection h with h1 h2
    subst h1 h2
    exact k V a (Step.refl ..) S rfl
  | succ m ih =>
    intro i hi a env env' V H H' S hd h k
    have hlt : i < ops.size := by omega
    have hdrop : ops.toList.drop i = ops[i] :: ops.toList.drop (i + 1) := by
      rw [List.drop_eq_getElem_cons (by simpa using hlt)]; simp
    rw [hdrop] at h
    simp only [aops] at h
    split at h
    · rename_i env1 H1 ev hs
      rw [List.range'_succ, wpOpsIn_cons]
      refine stepD_wp hc hF (Array.getElem?_eq_getElem hlt) S (hd _ (by simp)) hs (fun V1 a1 hst S1 hsz => ?_)
      refine ih (i + 1) (by omega) a1 env1 env' V1 H1 H' S1 (by rw [hsz]; exact hd) h (fun V' a' hst' S' hsz' => k V' a' (hst.trans hst') S' (hsz'.trans hsz))
    · cases h

theorem region_wp {P : Program} {call : CallFn} (hc : CallOk P call) {F : Fence} (hF : Fine F) {n : Nat} {id : Nat} {ops : Array Oper} {base : Nat} {Q : Exit → Act → World → Prop} {a : Act} {env env' : Env} {V : View} {H H' : AH} (S : Sit V H env F.round base a)
    (hd : ∀ o ∈ ops.toList, dstOk a.tmps.size o = true) (h : aops P call ops ops.toList env H = some (env', H'))
    (k : ∀ (V' : View) (a' : Act), Step V H V' H' → Sit V' H' env' F.round base a' → a'.tmps.size = a.tmps.size → Q .normal a' V'.w) : (Code.region id ops false).wpIn F n P Q a V.w := by
  refine wpIn_region ?_
  rw [List.range_eq_range']
  exact aops_wp hc hF ops.size 0 (by omega) a env env' V H H' S hd (by simpa using h) k

end Go.AM
