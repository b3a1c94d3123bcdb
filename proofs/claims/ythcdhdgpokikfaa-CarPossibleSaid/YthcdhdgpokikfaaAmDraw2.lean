/- The trace of a region in its text's order; what stands before what. -/
import Derived.Test.YthcdhdgpokikfaaAmDraw1
namespace Go.AM

/-! ### The last one -/
def lastOf (p : Nat → Bool) : Nat → Option Nat
  | 0 => none
  | n + 1 => if p n then some n else lastOf p n
theorem lastOf_congr {p q : Nat → Bool} : ∀ {n : Nat}, (∀ k, k < n → p k = q k) → lastOf p n = lastOf q n := by
  intro n
  induction n with
  | zero => intro _; rfl
  | succ n ih => intro h; simp only [lastOf, h n (by omega), ih (fun k hk => h k (by omega))]
theorem lastOf_le {p : Nat → Bool} {i : Nat} : ∀ {n : Nat}, i ≤ n → (∀ k, i ≤ k → k < n → p k = false) → lastOf p n = lastOf p i := by
  intro n
  induction n with
  | zero => intro h _; have : i = 0 := by omega
            rw [this]
  | succ n ih =>
    intro h hp
    rcases Nat.lt_or_ge n i with h1 | h1
    · have : i = n + 1 := by omega
      rw [this]
    · simp only [lastOf, hp n h1 (by omega), Bool.false_eq_true, if_false]
      exact ih h1 (fun k h2 h3 => hp k h2 (by omega))
theorem lastOf_at {p : Nat → Bool} {i n : Nat} (hi : i < n) (hp : p i = true) (h : ∀ k, i < k → k < n → p k = false) : lastOf p n = some i := by
  rw [lastOf_le (i := i + 1) hi (fun k h1 h2 => h k h1 h2)]
  simp [lastOf, hp]
theorem lastOf_some {p : Nat → Bool} {k : Nat} : ∀ {n : Nat}, lastOf p n = some k → k < n ∧ p k = true := by
  intro n
  induction n with
  | zero => intro h; cases h
  | succ n ih =>
    intro h
    simp only [lastOf] at h
    split at h
    · injection h with h; subst h; exact ⟨by omega, by assumption⟩
    · have := ih h; exact ⟨by omega, this.2⟩

/-! ### What stands before -/
/-- A set that holds, with an operation, all that it comes after. -/
def Closed (ops : Array Oper) (S : Nat → Bool) : Prop := ∀ (j : Nat) (o : Oper), S j = true → ops[j]? = some o → ∀ e ∈ o.after, Region.binds .any e = true → S e.on = true

theorem foldl_bits {acc : Array Nat} {i : Nat} : ∀ {es : List Edge} {s : Nat}, (es.foldl (fun s e => if Region.binds .any e then s ||| 2 ^ e.on ||| acc.getD e.on 0 else s) s).testBit i = true →
    s.testBit i = true ∨ ∃ e ∈ es, Region.binds .any e = true ∧ (i = e.on ∨ (acc.getD e.on 0).testBit i = true) := by
  intro es
  induction es with
  | nil => intro s h; exact .inl h
  | cons e es ih =>
    intro s h
    rw [List.foldl_cons] at h
    rcases ih h with h1 | ⟨e', he', h2, h3⟩
    · by_cases hb : Region.binds .any e = true
      · rw [if_pos hb] at h1
        rw [Nat.testBit_or, Nat.testBit_or] at h1
        simp only [Bool.or_eq_true] at h1
        rcases h1 with (h1 | h1) | h1
        · exact .inl h1
        · rw [Nat.testBit_two_pow] at h1
          exact .inr ⟨e, by simp, hb, .inl (by simpa using h1 : e.on = i).symm⟩
        · exact .inr ⟨e, by simp, hb, .inr h1⟩
      · rw [if_neg hb] at h1
        exact .inl h1
    · exact .inr ⟨e', by simp [he'], h2, h3⟩

theorem before_closed {ops : Array Oper} {S : Nat → Bool} (hS : Closed ops S) {i j : Nat} (hb : ((Region.before ops).getD j 0).testBit i = true) (hj : S j = true) : S i = true := by
  have key : ∀ (l2 l1 : List Oper) (acc : Array Nat), ops.toList = l1 ++ l2 → acc.size = l1.length → (∀ j i, (acc.getD j 0).testBit i = true → S j = true → S i = true) →
      ∀ j i, ((l2.foldl (fun acc o => acc.push (o.after.foldl (fun s e => if Region.binds .any e then s ||| 2 ^ e.on ||| acc.getD e.on 0 else s) 0)) acc).getD j 0).testBit i = true → S j = true → S i = true := by
    intro l2
    induction l2 with
    | nil => intro l1 acc _ _ h j i hb hj; exact h j i hb hj
    | cons o l2 ih =>
      intro l1 acc hl hsz h
      refine ih (l1 ++ [o]) _ (by simp [hl]) (by simp [hsz]) (fun j i hb hj => ?_)
      rw [Array.getD_eq_getD_getElem?, Array.getElem?_push] at hb
      split at hb
      · rename_i hjs
        simp only [Option.getD_some] at hb
        rw [← Array.foldl_toList] at hb
        rcases foldl_bits hb with h0 | ⟨e, he, hbe, h3⟩
        · simp at h0
        · have ho : ops[j]? = some o := by
            rw [← Array.getElem?_toList, hl, hjs, hsz]
            simp
          have hse := hS j o hj ho e (by simpa using he) hbe
          rcases h3 with rfl | h3
          · exact hse
          · exact h _ _ h3 hse
      · rw [← Array.getD_eq_getD_getElem?] at hb
        exact h j i hb hj
  have := key ops.toList [] #[] (by simp) rfl (fun j i hb hj => by simp [Array.getD] at hb) j i
  refine this ?_ hj
  unfold Region.before at hb
  rw [← Array.foldl_toList] at hb
  exact hb

/-! ### The trace -/
structure Trace (P : Program) (call : CallFn) (ops : Array Oper) where
  st : Nat → Env × AH
  ev : Nat → Option Evt
  step : ∀ (k : Nat) (o : Oper), ops[k]? = some o → stepD P call ops o (st k).1 (st k).2 = some ((st (k + 1)).1, (st (k + 1)).2, ev k)
  ord : ∀ (i j : Nat) (a b : Evt), i < j → j < ops.size → ev i = some a → ev j = some b → a.conf b = true → ((Region.before ops).getD j 0).testBit i = true

theorem ordOk_spec {bits : Array Nat} : ∀ {es : List (Nat × Evt)}, ordOk bits es = true → es.Pairwise fun a b => a.2.conf b.2 = true → (bits.getD b.1 0).testBit a.1 = true := by
  intro es
  induction es with
  | nil => intro _; exact .nil
  | cons e es ih =>
    intro h
    simp only [ordOk, Bool.and_eq_true, List.all_eq_true, Bool.or_eq_true, Bool.not_eq_true'] at h
    refine .cons (fun d hd hc => ?_) (ih h.2)
    rcases h.1 d hd with h1 | h1
    · rw [hc] at h1; cases h1
    · exact h1

theorem aopsD_trace {P : Program} {call : CallFn} {ops : Array Oper} {bits : Array Nat} : ∀ (m i : Nat), i + m = ops.size → ∀ (env env' : Env) (H H' : AH) (es : List (Nat × Evt)), aopsD P call ops i (ops.toList.drop i) env H = some (env', H', es) →
    (es.Pairwise fun a b => a.2.conf b.2 = true → (bits.getD b.1 0).testBit a.1 = true) →
    ∃ (st : Nat → Env × AH) (ev : Nat → Option Evt), st i = (env, H) ∧ st ops.size = (env', H') ∧
      (∀ (k : Nat) (o : Oper), i ≤ k → ops[k]? = some o → stepD P call ops o (st k).1 (st k).2 = some ((st (k + 1)).1, (st (k + 1)).2, ev k)) ∧
      (∀ k b, i ≤ k → k < ops.size → ev k = some b → (k, b) ∈ es) ∧
      (∀ (k l : Nat) (a b : Evt), i ≤ k → k < l → l < ops.size → ev k = some a → ev l = some b → a.conf b = true → (bits.getD l 0).testBit k = true) := by
  intro m
  induction m with
  | zero =>
    intro i hi env env' H H' es h _
    have : ops.toList.drop i = [] := by apply List.drop_eq_nil_of_le; simp; omega
    rw [this] at h
    simp only [aopsD] at h
    injection h with h; injection h with h1 h2; injection h2 with h2 h3
    subst h1 h2
    have hi' : i = ops.size := by omega
    refine ⟨fun _ => (env, H), fun _ => none, rfl, rfl, fun k o hk ho => ?_, fun k b h1 h2 => by omega, fun k l a b h1 h2 h3 => by omega⟩
    have := (Array.getElem?_eq_some_iff.1 ho).1
    omega
  | succ m ih =>
    intro i hi env env' H H' es h hp
    have hlt : i < ops.size := by omega
    have hdrop : ops.toList.drop i = ops[i] :: ops.toList.drop (i + 1) := by
      rw [List.drop_eq_getElem_cons (by simpa using hlt)]; simp
    rw [hdrop] at h
    simp only [aopsD] at h
    split at h
    · rename_i env1 H1 e hs
      split at h
      · rename_i env2 H2 es2 hr
        injection h with h; injection h with h1 h2; injection h2 with h2 h3
        subst h1 h2
        have hp2 : es2.Pairwise fun a b => a.2.conf b.2 = true → (bits.getD b.1 0).testBit a.1 = true := by
          cases e with
          | none => simp only at h3; rw [h3]; exact hp
          | some e => simp only at h3; rw [← h3] at hp; exact (List.pairwise_cons.1 hp).2
        obtain ⟨st, ev, g1, g2, g3, g4, g5⟩ := ih (i + 1) (by omega) env1 env2 H1 H2 es2 hr hp2
        have hsub : ∀ x ∈ es2, x ∈ es := by
          intro x hx
          cases e with
          | none => simp only at h3; rw [← h3]; exact hx
          | some e => simp only at h3; rw [← h3]; exact List.mem_cons_of_mem _ hx
        have ne : ∀ k, i < k → (if k = i then (env, H) else st k) = st k := fun k hk => if_neg (by omega)
        have ne' : ∀ k, i < k → (if k = i then e else ev k) = ev k := fun k hk => if_neg (by omega)
        refine ⟨fun k => if k = i then (env, H) else st k, fun k => if k = i then e else ev k, if_pos rfl, ?_, fun k o hk ho => ?_, fun k b h1 h2 h4 => ?_, fun k l a b h1 h2 h4 ha hb hc => ?_⟩
        · exact (ne _ hlt).trans g2
        · simp only [ne (k + 1) (by omega)]
          by_cases hki : k = i
          · subst hki
            simp only [if_true]
            rw [g1]
            have : ops[k] = o := by rw [Array.getElem?_eq_getElem hlt] at ho; injection ho
            rw [← this]; exact hs
          · simp only [ne k (by omega), ne' k (by omega)]
            exact g3 k o (by omega) ho
        · by_cases hki : k = i
          · subst hki
            simp only [if_true] at h4
            subst h4
            simp only at h3
            rw [← h3]; simp
          · simp only [ne' k (by omega)] at h4
            exact hsub _ (g4 k b (by omega) h2 h4)
        · simp only [ne' l (by omega)] at hb
          by_cases hki : k = i
          · subst hki
            simp only [if_true] at ha
            subst ha
            simp only at h3
            rw [← h3] at hp
            exact (List.pairwise_cons.1 hp).1 (l, b) (g4 l b (by omega) h4 hb) hc
          · simp only [ne' k (by omega)] at ha
            exact g5 k l a b (by omega) h2 h4 ha hb hc
      · cases h
    · cases h

theorem trace_of {P : Program} {call : CallFn} {ops : Array Oper} {env env' : Env} {H H' : AH} {es : List (Nat × Evt)} (h : aopsD P call ops 0 ops.toList env H = some (env', H', es)) (ho : ordOk (Region.before ops) es = true) :
    ∃ T : Trace P call ops, T.st 0 = (env, H) ∧ T.st ops.size = (env', H') := by
  obtain ⟨st, ev, g1, g2, g3, _, g5⟩ := aopsD_trace (ops := ops) (bits := Region.before ops) ops.size 0 (by omega) env env' H H' es (by simpa using h) (ordOk_spec ho)
  exact ⟨⟨st, ev, fun k o hk => g3 k o (by omega) hk, fun i j a b h1 h2 h3 h4 h5 => g5 i j a b (by omega) h1 h2 h3 h4 h5⟩, g1, g2⟩

end Go.AM
