/- A region that draws its order. -/
import Derived.Test.YthcdhdgpokikfaaAmDraw6
namespace Go.AM

section
variable {P : Program} {call : CallFn} {ops : Array Oper} {T : Trace P call ops} {F : Fence} {base N0 : Nat} {V0 : View} {S S' : Nat → Bool} {i : Nat}

theorem drawn_step (hc : CallOk P call) (hF : Fine F) {n : Nat} (X : Text T) {a : Act} {V : View} (D : DI T F base N0 V0 S a V) (N : Now ops S S' i) (ht : tempOk ops = true) {o : Oper} (ho : ops[i]? = some o) (hd : dstOk N0 o = true)
    {K : Act → World → Prop} {Q : Exit → Act → World → Prop} (k : ∀ (a' : Act) (V' : View), DI T F base N0 V0 S' a' V' → K a' V'.w) : wpOpIn F n P ops Q i K a V.w := by
  have hi := (Array.getElem?_eq_some_iff.1 ho).1
  have hile := Nat.le_of_lt hi
  obtain ⟨env, R, hx, hw⟩ := named D N ht ho
  unfold wpOpIn
  rw [ho]
  simp only
  rcases stepD_cases (T.step i o ho) with ⟨h1, h2, h3, h4⟩ | ⟨v, d, h1, h2, h3, h4, h5⟩
  · rw [← hw] at h1
    rw [wanted_sound R h1, if_neg (by simp)]
    refine ⟨fun f _ => hF.fn f, k _ V (D.next N ht ho hd h2 (Ext.refl V) D.hr .und ?_ (fun _ _ _ => ⟨rfl, rfl⟩) D.bd)⟩
    rw [D.bl]
    funext h
    rw [bl_same T N.more (by unfold wrs; rw [h4])]
  · rw [← hw] at h1
    rw [wanted_sound R h1, if_pos rfl]
    unfold step1 at h2
    split at h2
    · rename_i f args ats hop
      split at h2
      · rename_i fc hfc
        obtain ⟨⟨r, e⟩, hcall, he⟩ := Option.map_eq_some_iff.1 h2
        injection he with he1 he2
        subst he1 he2
        have hdf : ∀ c, o.op ≠ .defer c := by intro c hc; rw [hop] at hc; cases hc
        refine ⟨fun f _ => hF.fn f, ?_⟩
        rw [Oper.semAt_eq _ _ _ hdf]
        have hex : execOp a.eval o = calling (a.eval f) (args.map a.eval) := by unfold execOp; rw [hop]; rfl
        rw [hex]
        have hf : evo env f = evo (T.st i).1 f := hx f (by rw [hop]; simp [Op.operands, Call.operands])
        have hargsE : args.toList.map (evo env) = args.toList.map (evo (T.st i).1) := List.map_congr_left (fun x hx' => hx x (by rw [hop]; simp [Op.operands, Call.operands]; exact .inr (by simpa using hx')))
        have hfv : CR V fc (a.eval f) := cell_sound (evo_sound R f) (by rw [hf]; exact hfc)
        have hargs : ASR V (args.toList.map (evo (T.st i).1)) (args.map a.eval) := by rw [← hargsE]; exact args_sound R args
        have hsc : ∀ x, ScV (T.st i).2.bl (evo (T.st i).1 x) := evo_scoped (X.scopedE hile)
        have hsf : Sc (T.st i).2.bl fc := by
          have := hsc f
          generalize evo (T.st i).1 f = y at this hfc
          cases y with
          | one c => simp only [AV.cell] at hfc; injection hfc with hfc; subst hfc; cases this; assumption
          | _ => simp [AV.cell] at hfc
        have hsa : ∀ x ∈ args.toList.map (evo (T.st i).1), ScV (T.st i).2.bl x := by
          intro x hx'
          obtain ⟨y, _, rfl⟩ := List.mem_map.1 hx'
          exact hsc y
        cases e with
        | full H' => exact drawn_full hc hF X D N ht ho hd hcall h3 h4 h5 hfv hargs k
        | clean => exact drawn_kept hc hF X D N ht ho hd hcall h3 h4 h5 (.inl rfl) hfv hargs hsf hsa k
        | made b => exact drawn_kept hc hF X D N ht ho hd hcall h3 h4 h5 (.inr ⟨b, rfl⟩) hfv hargs hsf hsa k
      · cases h2
    · obtain ⟨⟨r, e⟩, hop, he⟩ := Option.map_eq_some_iff.1 h2
      injection he with he1 he2
      subst he1 he2
      exact drawn_op hF X D N ht ho hd hop h3 h4 h5 R hx k

def unlisted (ops : Array Oper) (listed : Array Bool) : Nat := (List.range ops.size).countP (fun k => !listed.getD k false)

theorem countP_less {p q : Nat → Bool} {i : Nat} : ∀ {l : List Nat}, i ∈ l → (∀ k, q k = true → p k = true) → p i = true → q i = false → l.countP q < l.countP p := by
  intro l
  induction l with
  | nil => intro h; cases h
  | cons x l ih =>
    intro hm hqp hp hq
    have hle : l.countP q ≤ l.countP p := List.countP_mono_left (fun k _ h => hqp k h)
    rw [List.countP_cons, List.countP_cons]
    rcases List.mem_cons.1 hm with rfl | hm
    · rw [hp, hq]; simp; omega
    · have := ih hm hqp hp hq
      have : (if q x = true then 1 else 0) ≤ (if p x = true then 1 else 0) := by
        cases hx : q x with
        | false => simp
        | true => simp [hqp x hx]
      omega

theorem drawn_any (hc : CallOk P call) (hF : Fine F) {n : Nat} (X : Text T) (ht : tempOk ops = true) (hed : edgesOk ops = true) (hd : ∀ o ∈ ops.toList, dstOk N0 o = true) {Q : Exit → Act → World → Prop}
    (kq : ∀ (a' : Act) (V' : View), DI T F base N0 V0 (fun k => decide (k < ops.size)) a' V' → Q .normal a' V'.w) :
    ∀ (fuel : Nat) (listed : Array Bool), listed.size = ops.size → Closed ops (fun k => listed.getD k false) → unlisted ops listed ≤ fuel → ∀ (a : Act) (V : View), DI T F base N0 V0 (fun k => listed.getD k false) a V →
      wpAnyIn F n P .any ops Q fuel listed a V.w := by
  have allq : ∀ (listed : Array Bool), listed.size = ops.size → (∀ k, k < ops.size → listed.getD k false = true) → ∀ (a : Act) (V : View), DI T F base N0 V0 (fun k => listed.getD k false) a V → Q .normal a V.w := by
    intro listed hsz hall a V D
    refine kq a V ?_
    have : (fun k => listed.getD k false) = (fun k => decide (k < ops.size)) := by
      funext k
      by_cases hk : k < ops.size
      · simp [hk, hall k hk]
      · have : ¬ k < listed.size := by omega
        simp [Array.getD, hk, this]
    rw [← this]; exact D
  have done : ∀ (listed : Array Bool), listed.size = ops.size → Region.ready .any ops listed = [] → ∀ k, k < ops.size → listed.getD k false = true := by
    intro listed hsz hr k
    induction k using Nat.strongRecOn with
    | _ k ih =>
      intro hk
      cases hl : listed.getD k false with
      | true => rfl
      | false =>
        have : k ∈ Region.ready .any ops listed := mem_ready.2 ⟨by
          simp [Array.getD, hsz, hk] at hl ⊢
          exact hl, ops[k], Array.getElem?_eq_getElem hk, fun e he hb => by
          have hlt : e.on < k := by
            unfold edgesOk at hed
            have h1 := all_get hed (ops[k], k) (by rw [List.mem_zipIdx_iff_getElem?]; simp [hk])
            have h2 := all_get h1 e (by simpa using he)
            simpa [hb] using h2
          exact ih e.on hlt (by omega)⟩
        rw [hr] at this; cases this
  intro fuel
  induction fuel with
  | zero =>
    intro listed hsz hcl hcnt a V D
    have hall : ∀ k, k < ops.size → listed.getD k false = true := by
      intro k hk
      have h0 : unlisted ops listed = 0 := by omega
      unfold unlisted at h0
      rw [List.countP_eq_zero] at h0
      have := h0 k (by simpa using hk)
      simpa using this
    refine ⟨?_, allq listed hsz hall a V D⟩
    cases hr : Region.ready .any ops listed with
    | nil => rfl
    | cons i rs =>
      obtain ⟨h1, o, h2, _⟩ := mem_ready.1 (by rw [hr]; simp : i ∈ Region.ready .any ops listed)
      have hi := (Array.getElem?_eq_some_iff.1 h2).1
      have := hall i hi
      simp [Array.getD, hsz, hi] at h1 this
      rw [h1] at this; cases this
  | succ fuel ih =>
    intro listed hsz hcl hcnt a V D
    refine ⟨fun hr => allq listed hsz (done listed hsz hr) a V D, fun i hi => ?_⟩
    obtain ⟨h1, o, h2, h3⟩ := mem_ready.1 hi
    have hlt := (Array.getElem?_eq_some_iff.1 h2).1
    have hout : listed.getD i false = false := by
      simp [Array.getD, hsz, hlt] at h1 ⊢
      exact h1
    have hmore : ∀ k, (listed.setIfInBounds i true).getD k false = (listed.getD k false || decide (k = i)) := by
      intro k
      by_cases hk : k = i
      · subst hk; simp [Array.getD, hsz, hlt]
      · simp only [Array.getD_eq_getD_getElem?]
        rw [Array.getElem?_setIfInBounds_ne (Ne.symm hk)]
        simp [hk]
    have hcl' : Closed ops (fun k => (listed.setIfInBounds i true).getD k false) := by
      intro j oj hj hoj e he hb
      simp only [hmore, Bool.or_eq_true] at hj ⊢
      rcases hj with hj | hj
      · exact .inl (hcl j oj hj hoj e he hb)
      · have hj : j = i := by simpa using hj
        subst hj
        rw [h2] at hoj
        injection hoj with hoj
        subst hoj
        exact .inl (h3 e he hb)
    have hlt2 : unlisted ops (listed.setIfInBounds i true) < unlisted ops listed := by
      refine countP_less (i := i) (by simpa using hlt) (fun k hk => ?_) (by simp [hout]) (by simp [hmore])
      simp only [hmore] at hk
      simp at hk ⊢
      exact hk.1
    exact drawn_step hc hF X D ⟨hcl, hcl', hout, hmore⟩ ht h2 (hd o (List.mem_of_getElem? (by simpa using h2))) (fun a' V' D' => ih _ (by simp [hsz]) hcl' (by omega) a' V' D')

theorem region_draw (hmix : P.follows .mixedOrders = true) (hc : CallOk P call) (hF : Fine F) {n : Nat} {id : Nat} {Q : Exit → Act → World → Prop} {a : Act} {env env' : Env} {V : View} {H H' : AH} {es : List (Nat × Evt)} (S0 : Sit V H env F.round base a)
    (hd : ∀ o ∈ ops.toList, dstOk a.tmps.size o = true) (ht : tempOk ops = true) (hed : edgesOk ops = true) (h : aopsD P call ops 0 ops.toList env H = some (env', H', es)) (ho : ordOk (Region.before ops) es = true)
    (k : ∀ (V' : View) (a' : Act), Step V H V' H' → Sit V' H' env' F.round base a' → a'.tmps.size = a.tmps.size → Q .normal a' V'.w) : (Code.region id ops true).wpIn F n P Q a V.w := by
  obtain ⟨T, hT0, hTN⟩ := trace_of h ho
  refine wpIn_region_any hmix ?_
  have E0 := View.still (V := V) (w' := { V.w with drawn := V.w.drawn + 1 }) rfl
  have H0 := HR.still S0.hr (w' := { V.w with drawn := V.w.drawn + 1 }) rfl
  have S1 : Sit ⟨{ V.w with drawn := V.w.drawn + 1 }, V.mu, V.bl, V.hid⟩ (T.st 0).2 (T.st 0).1 F.round base a := by
    rw [hT0]
    exact ⟨⟨S0.bl, S0.nx, H0⟩, S0.er.mono E0, S0.dr.mono E0, S0.rd.mono E0⟩
  have X := text_of hc hF T S1 hd
  have hbl0 : BlS T (fun k => (Array.replicate ops.size false).getD k false) = (T.st 0).2.bl := by
    funext h
    exact bl_at T (Nat.zero_le _) (fun k hk => absurd hk (by omega)) (fun k _ hk _ => by simp [Array.getD])
  have hen0 : EnvS T (fun k => (Array.replicate ops.size false).getD k false) = (T.st 0).1 := by
    funext h
    exact env_at T (Nat.zero_le _) (fun k hk => absurd hk (by omega)) (fun k _ hk _ => by simp [Array.getD])
  refine drawn_any (T := T) (F := F) (base := base) (N0 := a.tmps.size) (V0 := V) hc hF X ht hed hd (fun a' V' D => ?_) ops.size _ (by simp) (fun j o hj => by simp [Array.getD] at hj) (by unfold unlisted; exact Nat.le_trans List.countP_le_length (by simp)) a ⟨{ V.w with drawn := V.w.drawn + 1 }, V.mu, V.bl, V.hid⟩
    ⟨by rw [hbl0]; exact S1.bl, H0, by rw [hen0]; exact S1.er, S1.dr, S1.rd, rfl, E0, fun _ _ _ => ⟨rfl, rfl⟩, ⟨(T.st 0).2.nx, fun h hh => by rw [S1.bl]; exact S1.nx h hh⟩⟩
  have hblN : BlS T (fun k => decide (k < ops.size)) = (T.st ops.size).2.bl := by
    funext h
    exact bl_at T (Nat.le_refl _) (fun k hk _ => by simpa using hk) (fun k h1 h2 _ => by omega)
  have henN : EnvS T (fun k => decide (k < ops.size)) = (T.st ops.size).1 := by
    funext h
    exact env_at T (Nat.le_refl _) (fun k hk _ => by simpa using hk) (fun k h1 h2 _ => by omega)
  have hlo := X.lo 0 ops.size (Nat.zero_le _) (Nat.le_refl _)
  have hnx := X.nx 0 ops.size (Nat.zero_le _) (Nat.le_refl _)
  rw [hT0, hTN] at hlo hnx
  refine k V' a' ⟨D.ext, hlo, hnx, fun h h1 h2 => D.keep h (by rw [hTN]; exact h1) h2⟩ ⟨⟨by rw [D.bl, hblN, hTN], fun h hh => ?_, D.hr⟩, ?_, D.dr, D.rd⟩ D.sz
  · have := X.none (k := ops.size) (h := h) (Nat.le_refl _) (by rw [hTN]; exact hh)
    rw [hTN] at this; exact this
  · have := D.er
    rw [henN, hTN] at this; exact this

end
end Go.AM
