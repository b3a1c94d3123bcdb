/- A region that draws its order: what holds when some of its operations have come up. -/
import Derived.Test.YthcdhdgpokikfaaAmDraw2
namespace Go.AM

theorem stepD_cases {P : Program} {call : CallFn} {ops : Array Oper} {o : Oper} {env env' : Env} {H H' : AH} {ev : Option Evt} (h : stepD P call ops o env H = some (env', H', ev)) :
    (wantedA ops env o = some false ∧ env' = putE env o.dst .und ∧ H' = H ∧ ev = none) ∨
    (∃ v d, wantedA ops env o = some true ∧ step1 P call env H o = some (v, d) ∧ env' = putE env o.dst v ∧ H' = d.app H ∧ ev = some (evt env o H d)) := by
  unfold stepD at h
  split at h
  · rename_i hw
    split at h
    · rename_i v d hs
      injection h with h; injection h with h1 h2; injection h2 with h2 h3
      exact .inr ⟨v, d, hw, hs, h1.symm, h2.symm, h3.symm⟩
    · cases h
  · rename_i hw
    injection h with h; injection h with h1 h2; injection h2 with h2 h3
    exact .inl ⟨hw, h1.symm, h2.symm, h3.symm⟩
  · cases h

def dstAt (ops : Array Oper) (k : Nat) : Option Nat := (ops[k]?).bind (·.dst)
section
variable {P : Program} {call : CallFn} {ops : Array Oper}
def wrs (T : Trace P call ops) (h k : Nat) : Bool := match T.ev k with
  | some e => e.wr == some h || e.all
  | none => false
def EnvS (T : Trace P call ops) (S : Nat → Bool) : Env := fun t => match lastOf (fun k => S k && (dstAt ops k == some t)) ops.size with
  | some k => (T.st (k + 1)).1 t
  | none => (T.st 0).1 t
def BlS (T : Trace P call ops) (S : Nat → Bool) : Nat → Blk := fun h => match lastOf (fun k => S k && wrs T h k) ops.size with
  | some k => (T.st (k + 1)).2.bl h
  | none => (T.st 0).2.bl h

variable (T : Trace P call ops)
theorem st_other_env {k t : Nat} (hk : k < ops.size) (h : (dstAt ops k == some t) = false) : (T.st (k + 1)).1 t = (T.st k).1 t := by
  have hs := T.step k ops[k] (Array.getElem?_eq_getElem hk)
  have hd : ops[k].dst ≠ some t := by
    intro e
    simp [dstAt, Array.getElem?_eq_getElem hk, e] at h
  have put : ∀ v, putE (T.st k).1 ops[k].dst v t = (T.st k).1 t := by
    intro v
    cases hd' : ops[k].dst with
    | none => rfl
    | some d => exact upd_ne _ _ (fun e => hd (by rw [hd', e]))
  rcases stepD_cases hs with ⟨_, h1, _, _⟩ | ⟨v, d, _, _, h1, _, _⟩
  · rw [h1]; exact put _
  · rw [h1]; exact put _
theorem st_other_bl {k h : Nat} (hk : k < ops.size) (hw : wrs T h k = false) : (T.st (k + 1)).2.bl h = (T.st k).2.bl h := by
  have hs := T.step k ops[k] (Array.getElem?_eq_getElem hk)
  rcases stepD_cases hs with ⟨_, _, h1, _⟩ | ⟨v, d, _, _, _, h1, h2⟩
  · rw [h1]
  · rw [h1]
    unfold wrs at hw
    rw [h2] at hw
    simp only [Bool.or_eq_false_iff] at hw
    obtain ⟨hw1, hw2⟩ := hw
    cases d with
    | op d =>
      cases d with
      | none => rfl
      | some p =>
        obtain ⟨h', b⟩ := p
        simp only [evt, Option.map_some] at hw1
        have : h' ≠ h := by intro e; subst e; simp at hw1
        simp only [Del.app, AH.app]
        exact upd_ne _ _ (Ne.symm this)
    | call e =>
      cases e with
      | clean => rfl
      | made b =>
        simp only [evt] at hw1
        have : (T.st k).2.nx ≠ h := by intro e; subst e; simp at hw1
        simp only [Del.app, Eff.app, AH.app]
        exact upd_ne _ _ (Ne.symm this)
      | full H' => simp [evt] at hw2

theorem st_env : ∀ {i t : Nat}, i ≤ ops.size → (T.st i).1 t = match lastOf (fun k => dstAt ops k == some t) i with
    | some k => (T.st (k + 1)).1 t
    | none => (T.st 0).1 t := by
  intro i t
  induction i with
  | zero => intro _; rfl
  | succ i ih =>
    intro hi
    simp only [lastOf]
    by_cases hd : (dstAt ops i == some t) = true
    · rw [if_pos hd]
    · rw [if_neg hd, st_other_env T hi (by simpa using hd)]; exact ih (by omega)
theorem st_bl : ∀ {i h : Nat}, i ≤ ops.size → (T.st i).2.bl h = match lastOf (fun k => wrs T h k) i with
    | some k => (T.st (k + 1)).2.bl h
    | none => (T.st 0).2.bl h := by
  intro i h
  induction i with
  | zero => intro _; rfl
  | succ i ih =>
    intro hi
    simp only [lastOf]
    by_cases hd : wrs T h i = true
    · rw [if_pos hd]
    · rw [if_neg hd, st_other_bl T hi (by simpa using hd)]; exact ih (by omega)

variable {S S' : Nat → Bool} {i : Nat}
theorem lastOf_at' {p : Nat → Bool} (hi : i ≤ ops.size) (h1 : ∀ k, k < i → p k = true → S k = true) (h2 : ∀ k, i ≤ k → k < ops.size → p k = true → S k = false) :
    lastOf (fun k => S k && p k) ops.size = lastOf p i := by
  rw [lastOf_le (i := i) hi (fun k h3 h4 => by
    cases hp : p k with
    | false => simp
    | true => simp [h2 k h3 h4 hp])]
  refine lastOf_congr (fun k hk => ?_)
  cases hp : p k with
  | false => simp
  | true => simp [h1 k hk hp]

theorem bl_at {h : Nat} (hi : i ≤ ops.size) (h1 : ∀ k, k < i → wrs T h k = true → S k = true) (h2 : ∀ k, i ≤ k → k < ops.size → wrs T h k = true → S k = false) : BlS T S h = (T.st i).2.bl h := by
  unfold BlS
  rw [lastOf_at' hi h1 h2, st_bl T hi]
theorem env_at {t : Nat} (hi : i ≤ ops.size) (h1 : ∀ k, k < i → dstAt ops k = some t → S k = true) (h2 : ∀ k, i ≤ k → k < ops.size → dstAt ops k = some t → S k = false) : EnvS T S t = (T.st i).1 t := by
  unfold EnvS
  rw [lastOf_at' (p := fun k => dstAt ops k == some t) hi (fun k hk hp => h1 k hk (by simpa using hp)) (fun k hk hk' hp => h2 k hk hk' (by simpa using hp)), st_env T hi]

/-- One more has come up. -/
theorem lastOf_more {p : Nat → Bool} (hi : i < ops.size) (hSS : ∀ k, S' k = (S k || decide (k = i))) (h2 : ∀ k, i < k → k < ops.size → p k = true → S k = false) :
    lastOf (fun k => S' k && p k) ops.size = if p i then some i else lastOf (fun k => S k && p k) ops.size := by
  split
  · rename_i hp
    refine lastOf_at hi (by simp [hSS, hp]) (fun k h3 h4 => ?_)
    cases hpk : p k with
    | false => simp
    | true =>
      have : k ≠ i := by omega
      simp [hSS, h2 k h3 h4 hpk, this]
  · rename_i hp
    refine lastOf_congr (fun k hk => ?_)
    by_cases hki : k = i
    · subst hki; simp [hp]
    · simp [hSS, hki]
theorem bl_more (hi : i < ops.size) (hSS : ∀ k, S' k = (S k || decide (k = i))) {h : Nat} (h2 : ∀ k, i < k → k < ops.size → wrs T h k = true → S k = false) :
    BlS T S' h = if wrs T h i then (T.st (i + 1)).2.bl h else BlS T S h := by
  unfold BlS
  rw [lastOf_more hi hSS h2]
  by_cases hw : wrs T h i = true
  · rw [if_pos hw, if_pos hw]
  · rw [if_neg hw, if_neg hw]
theorem bl_same (hSS : ∀ k, S' k = (S k || decide (k = i))) {h : Nat} (hw : wrs T h i = false) : BlS T S' h = BlS T S h := by
  unfold BlS
  have : lastOf (fun k => S' k && wrs T h k) ops.size = lastOf (fun k => S k && wrs T h k) ops.size := lastOf_congr (fun k _ => by
    by_cases hki : k = i
    · subst hki; simp [hw]
    · simp [hSS, hki])
  rw [this]

theorem names_spec (ht : tempOk ops = true) {j : Nat} {o : Oper} (ho : ops[j]? = some o) {t : Nat} (hn : t ∈ namesOf ops o) {k : Nat} (hk : dstAt ops k = some t) (hne : k ≠ j) :
    ((Region.before ops).getD (max k j) 0).testBit (min k j) = true := by
  unfold tempOk at ht
  obtain ⟨o', ho', hd⟩ := Option.bind_eq_some_iff.1 hk
  have mem : ∀ {j : Nat} {o : Oper}, ops[j]? = some o → (o, j) ∈ ops.toList.zipIdx := by
    intro j o ho
    rw [List.mem_zipIdx_iff_getElem?]
    simpa using ho
  have h1 := all_get ht (o, j) (mem ho)
  have h2 := all_get h1 t hn
  have h3 := all_get h2 (o', k) (mem ho')
  simp only [Bool.or_eq_true, bne_iff_ne, ne_eq, beq_iff_eq] at h3
  rcases h3 with (h3 | h3) | h3
  · exact absurd hd h3
  · exact absurd h3 hne
  · exact h3

/-- What is known of an operation that comes up now. -/
structure Now (ops : Array Oper) (S S' : Nat → Bool) (i : Nat) : Prop where
  cl : Closed ops S
  cl' : Closed ops S'
  out : S i = false
  more : ∀ k, S' k = (S k || decide (k = i))
variable {T}
theorem Now.earlier (N : Now ops S S' i) {k : Nat} (hne : k ≠ i) (hb : ((Region.before ops).getD i 0).testBit k = true) : S k = true := by
  have := before_closed N.cl' hb (by simp [N.more])
  rw [N.more] at this
  simpa [hne] using this
theorem Now.later (N : Now ops S S' i) {k : Nat} (hb : ((Region.before ops).getD k 0).testBit i = true) : S k = false := by
  cases hk : S k with
  | false => rfl
  | true =>
    have := before_closed N.cl hb hk
    rw [N.out] at this; cases this

theorem Now.env (N : Now ops S S' i) (ht : tempOk ops = true) {o : Oper} (ho : ops[i]? = some o) {t : Nat} (hn : t ∈ namesOf ops o) : EnvS T S t = (T.st i).1 t := by
  have hi := (Array.getElem?_eq_some_iff.1 ho).1
  refine env_at T (Nat.le_of_lt hi) (fun k hk hd => ?_) (fun k hk hk' hd => ?_)
  · have := names_spec ht ho hn hd (by omega)
    rw [Nat.max_eq_right (by omega), Nat.min_eq_left (by omega)] at this
    exact N.earlier (by omega) this
  · by_cases hki : k = i
    · subst hki; exact N.out
    · have := names_spec ht ho hn hd hki
      rw [Nat.max_eq_left (by omega), Nat.min_eq_right (by omega)] at this
      exact N.later this
theorem Now.env' (N : Now ops S S' i) (ht : tempOk ops = true) {o : Oper} (ho : ops[i]? = some o) {v : AV} (hv : (T.st (i + 1)).1 = putE (T.st i).1 o.dst v) : EnvS T S' = putE (EnvS T S) o.dst v := by
  have hi := (Array.getElem?_eq_some_iff.1 ho).1
  funext t
  have hda : dstAt ops i = o.dst := by simp [dstAt, ho]
  by_cases hd : o.dst = some t
  · have : lastOf (fun k => S' k && (dstAt ops k == some t)) ops.size = some i := by
      rw [lastOf_more (p := fun k => dstAt ops k == some t) hi N.more (fun k h1 h2 h3 => ?_)]
      · simp [hda, hd]
      · have := names_spec ht ho (t := t) (by unfold namesOf; simp [hd]) (k := k) (by simpa using h3) (by omega)
        rw [Nat.max_eq_left (by omega), Nat.min_eq_right (by omega)] at this
        exact N.later this
    unfold EnvS
    rw [this]
    simp only
    rw [hv, hd]
    simp only [putE, upd_same]
  · have h1 : putE (EnvS T S) o.dst v t = EnvS T S t := by
      cases hd' : o.dst with
      | none => rfl
      | some d => exact upd_ne _ _ (fun e => hd (by rw [hd', e]))
    rw [h1]
    unfold EnvS
    have : lastOf (fun k => S' k && (dstAt ops k == some t)) ops.size = lastOf (fun k => S k && (dstAt ops k == some t)) ops.size := lastOf_congr (fun k _ => by
      by_cases hki : k = i
      · subst hki
        have hb : (o.dst == some t) = false := by
          cases hx : o.dst with
          | none => rfl
          | some d => rw [hx] at hd; simp; exact fun e => hd (by rw [e])
        simp [hda, hb]
      · simp [N.more, hki])
    rw [this]

theorem wrs_iff {h k : Nat} : wrs T h k = true ↔ ∃ e, T.ev k = some e ∧ (e.wr = some h ∨ e.all = true) := by
  unfold wrs
  cases T.ev k with
  | none => simp
  | some e => simp

/-- Who wrote what this one looks at, or writes, has come up if it stands before; has not if it stands behind. -/
theorem Now.bl (N : Now ops S S' i) (hi : i < ops.size) {e : Evt} (he : T.ev i = some e) {h : Nat} (hh : h ∈ e.reads ∨ e.wr = some h) : BlS T S h = (T.st i).2.bl h := by
  have htouch : e.touch = true := by
    unfold Evt.touch
    rcases hh with hh | hh
    · have : e.reads.isEmpty = false := by cases hr : e.reads with | nil => rw [hr] at hh; cases hh | cons _ _ => rfl
      simp [this]
    · simp [hh]
  refine bl_at T (Nat.le_of_lt hi) (fun k hk hw => ?_) (fun k hk hk' hw => ?_)
  · obtain ⟨ek, hek, hw⟩ := wrs_iff.1 hw
    refine N.earlier (by omega) (T.ord k i ek e hk hi hek he ?_)
    unfold Evt.conf
    rcases hw with hw | hw
    · rcases hh with hh | hh <;> simp [hw, hh]
    · simp [hw, htouch]
  · by_cases hki : k = i
    · subst hki; exact N.out
    obtain ⟨ek, hek, hw⟩ := wrs_iff.1 hw
    refine N.later (T.ord i k e ek (by omega) hk' he hek ?_)
    unfold Evt.conf
    rcases hw with hw | hw
    · rcases hh with hh | hh <;> simp [hw, hh]
    · simp [hw, htouch]
theorem Now.bl_later (N : Now ops S S' i) {e : Evt} (he : T.ev i = some e) {h : Nat} (hh : e.wr = some h ∨ e.all = true) : ∀ k, i < k → k < ops.size → wrs T h k = true → S k = false := by
  intro k hk hk' hw
  obtain ⟨ek, hek, hw⟩ := wrs_iff.1 hw
  refine N.later (T.ord i k e ek hk hk' he hek ?_)
  unfold Evt.conf
  rcases hh with hh | hh
  · rcases hw with hw | hw
    · simp [hh, hw]
    · have : e.touch = true := by unfold Evt.touch; simp [hh]
      simp [hw, this]
  · have : ek.touch = true := by
      unfold Evt.touch
      rcases hw with hw | hw <;> simp [hw]
    simp [hh, this]
end
end Go.AM
