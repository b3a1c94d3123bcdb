/- car.Fuel. -/
import Derived.Test.YthcdhdgpokikfaaAcFuelM
import Derived.Test.YthcdhdgpokikfaaAmWk6
open Go.Proofs
namespace Go.AM.Car
set_option maxRecDepth 10000
set_option maxHeartbeats 4000000

theorem MS_bounds {l : List Leg} (h : ∀ x ∈ l, legOk x = true) : ∀ i, 0 ≤ MS l i ∧ MS l i ≤ i * 1000000 ∧ 0 ≤ LS l i ∧ LS l i ≤ i * 1000000 := by
  intro i
  induction i with
  | zero => simp [MS, LS, psl_zero]
  | succ i ih =>
    by_cases hi : i < l.length
    · obtain ⟨x, hx⟩ : ∃ x, l[i]? = some x := ⟨_, List.getElem?_eq_getElem hi⟩
      have hk := h x (List.mem_of_getElem? hx)
      simp only [legOk, decide_eq_true_eq] at hk
      rw [MS_succ hx, LS_succ hx]
      push_cast
      omega
    · have e1 : MS l (i + 1) = MS l i := psl_over (by simp; omega)
      have e2 : LS l (i + 1) = LS l i := psl_over (by simp; omega)
      rw [e1, e2]
      push_cast
      omega

theorem Fuel_cv {c : Cell} {l : List Leg} (tank reserve start : Int) (H : AH) (hc : Sl H 3 c (l.map legC)) (hl : l.length ≤ 9223372036854775807) (ht : tankOk tank reserve start l = true) :
    Cv Try.prog 25 [vint tank, vint reserve, vint start, .one c] H (Cl (fun r => (∃ w, r = .tup [.one (.lst 1 (w.map intC)), vint 0] ∧ Least tank reserve start l w) ∨ (r = .tup [.one cnil, vint 5] ∧ ∀ w, ¬SP tank reserve start l w))) := by
  have ht' := ht
  simp only [tankOk, Bool.and_eq_true, decide_eq_true_eq, List.all_eq_true] at ht'
  obtain ⟨⟨t1, t2, t3, t4, t5, t6, t7⟩, hleg⟩ := ht'
  have hb := MS_bounds hleg
  refine Cv_of Try.func25 rfl rfl rfl (fun H1 hs => ?_)
  repeat' (first | refine So_ms (f := intC) (e0 := 0) (fun kb Hb hsb => ?_) | (refine q_ev ?_; first | refine Ev_seq.2 ?_ | refine Ev_block.2 ?_ | refine Ev_rp ?_ | refine Ev_rs ?_ | refine Ev_rt ?_ | refine Ev_skip.2 ?_ | refine Ev_ret.2 ?_ | refine Ev_exit.2 ?_ | refine Ev_ct ?_ | refine Ev_cf ?_ | refine Ev_cn (fun hg => ?_) (fun hg => ?_) | refine Ev_cd (fun hg => ?_) (fun hg => ?_) | refine Ev_cm (fun hg => ?_) (fun hg => ?_) | refine Ev_cs (fun hg => ?_) (fun hg => ?_)) | (refine q_nt ?_; first | refine So_nilR ?_) | (refine q_nil ?_; first | refine So_nil ?_) | (refine q_g ?_; first | refine So_gy ?_ | refine So_gn ?_ | refine So_gu ?_ | refine So_gTn (fun hg => ?_) (fun hg => ?_) | refine So_gFn (fun hg => ?_) (fun hg => ?_) | refine So_gT (fun hg => ?_) (fun hg => ?_) | refine So_gF (fun hg => ?_) (fun hg => ?_) | refine So_gTm (fun hg => ?_) (fun hg => ?_) | refine So_gFm (fun hg => ?_) (fun hg => ?_) | refine So_gTb (fun hg => ?_) (fun hg => ?_) | refine So_gFb (fun hg => ?_) (fun hg => ?_)) | (refine q_mv ?_; first | refine So_mc ?_ | refine So_ma ?_ | refine So_mv ?_) | (refine q_as ?_; first | refine So_ac ?_ | refine So_aa ?_ | refine So_av ?_) | (refine q_ld ?_; first | refine So_lb ?_ | refine So_la ?_ | refine So_lp ?_ | refine So_lpa ?_ | refine So_lx ?_ | refine So_lxa ?_ | refine So_lxO ?_ | refine So_lxaO ?_ | refine So_ln (fun x hx => ?_) | refine So_lna (fun x hx => ?_) | refine So_lnO (fun x hx => ?_) | refine So_lnaO (fun x hx => ?_)) | (refine q_fa ?_; first | refine So_fa ?_ | refine So_fe ?_) | (refine q_ia ?_; first | refine So_ia ?_ | refine So_iaO ?_) | (refine q_cl ?_; first | refine So_fn (fueled_cv _ _ _ _ (hc.up (by assumption)) hl) ?_) | (refine q_bin ?_; first | refine So_lss ?_ | refine So_leq ?_ | refine So_gtr ?_ | refine So_geq ?_ | refine So_eql ?_ | refine So_neq ?_ | refine So_add ?_ | refine So_sub ?_ | refine So_mul ?_ | refine So_quo ?_ | refine So_rem ?_ | refine So_eqb ?_ | refine So_neb ?_) | (refine q_pk ?_; first | refine So_pt ?_ | refine So_pf ?_ | refine So_pb ?_) | (refine q_un ?_; first | refine So_notd ?_ | refine So_not ?_) | (refine q_len ?_; first | refine So_len ?_ | refine So_len0 ?_ | refine So_lenO ?_) | (refine q_st ?_; first | refine So_st (fun Hb hsb => ?_) | refine So_stO (fun Hb hsb => ?_)) | (refine q_ex ?_; first | refine So_ex ?_) | (refine q_sl ?_; first | refine So_slh ?_ | refine So_sll ?_) | (refine q_f ?_; first | refine So_f ?_ | refine So_ff ?_) | (refine q_bi ?_; first | refine So_min ?_ | refine So_max ?_) | (refine q_rt ?_; first | refine Rt1 ?_ | refine Rt2 ?_ | refine Rt3 ?_ | refine Ro1 ?_ | refine Ro2 ?_ | refine Ro3 ?_) | refine So_box (fun kb Hb hsb => ?_) | refine So_alloc (fun kb Hb hsb => ?_) | refine So_mf ?_)
  · rw [ht] at hg; cases hg
  have hmm : ∀ j, MS l j ≤ MS l (j + 1) := fun j => by
    by_cases hj : j < l.length
    · obtain ⟨x, hx⟩ : ∃ x, l[j]? = some x := ⟨_, List.getElem?_eq_getElem hj⟩
      have hk := hleg x (List.mem_of_getElem? hx)
      simp only [legOk, decide_eq_true_eq] at hk
      rw [MS_succ hx]; omega
    · rw [show MS l (j + 1) = MS l j from psl_over (by simp; omega)]; omega
  refine Ev_for l.length (fun i e h => ∃ ka need mo S, e 0 = vint tank ∧ e 1 = vint reserve ∧ e 2 = vint start ∧ e 3 = .one c ∧ e 10 = vint l.length ∧ e 11 = .one (.sl ka l.length 0 l.length) ∧ e 12 = vint need ∧ e 13 = vint mo ∧ e 34 = .one c ∧ e 35 = vint l.length ∧ e 36 = vint i ∧ Hs H h [(ka, .arr 1 (S.map intC))] ∧ S.length = l.length ∧ need = reserve - start + MS l i ∧ 0 ≤ mo ∧ mo ≤ 100000000 ∧
    (∀ (j : Nat) y, j < i → S[j]? = some y → 0 ≤ y ∧ reserve - start + MS l (j + 1) ≤ y ∧ y ≤ mo) ∧ (∀ (j : Nat) y z, j + 1 < i → S[j]? = some y → S[j + 1]? = some z → y ≤ z) ∧
    (∀ w, SP tank reserve start l w → mo ≤ psl w i ∧ ∀ (j : Nat) y, j < i → S[j]? = some y → y ≤ psl w (j + 1))) ?_
    ⟨_, _, _, List.replicate l.length 0, rfl, rfl, rfl, rfl, rfl, rfl, rfl, rfl, rfl, rfl, rfl, hsb, by simp, by simp [MS, psl_zero], by omega, by omega, fun j y hj => by omega, fun j y z hj => by omega, fun w _ => ⟨by simp [psl_zero], fun j y hj => by omega⟩⟩
  clear hsb hs
  rintro i e h hi ⟨ka, need, mo, S, e1, e2, e3, e4, e5, e6, e7, e8, e9, e10, e11, hs, hS, hneed, m1, m2, hA, hM, hX⟩
  obtain ⟨e0, rfl⟩ := form11 e1 e2 e3 e4 e5 e6 e7 e8 e9 e10 e11
  clear e1 e2 e3 e4 e5 e6 e7 e8 e9 e10 e11
  have hbi := hb i
  have hbi1 := hb (i + 1)
  repeat' (first | (refine q_ev ?_; first | refine Ev_seq.2 ?_ | refine Ev_block.2 ?_ | refine Ev_rp ?_ | refine Ev_rs ?_ | refine Ev_rt ?_ | refine Ev_skip.2 ?_ | refine Ev_ret.2 ?_ | refine Ev_exit.2 ?_ | refine Ev_ct ?_ | refine Ev_cf ?_ | refine Ev_cn (fun hg => ?_) (fun hg => ?_) | refine Ev_cd (fun hg => ?_) (fun hg => ?_) | refine Ev_cm (fun hg => ?_) (fun hg => ?_) | refine Ev_cs (fun hg => ?_) (fun hg => ?_)) | (refine q_nt ?_; first | refine So_nilR ?_) | (refine q_nil ?_; first | refine So_nil ?_) | (refine q_g ?_; first | refine So_gy ?_ | refine So_gn ?_ | refine So_gu ?_ | refine So_gTn (fun hg => ?_) (fun hg => ?_) | refine So_gFn (fun hg => ?_) (fun hg => ?_) | refine So_gT (fun hg => ?_) (fun hg => ?_) | refine So_gF (fun hg => ?_) (fun hg => ?_) | refine So_gTm (fun hg => ?_) (fun hg => ?_) | refine So_gFm (fun hg => ?_) (fun hg => ?_) | refine So_gTb (fun hg => ?_) (fun hg => ?_) | refine So_gFb (fun hg => ?_) (fun hg => ?_)) | (refine q_mv ?_; first | refine So_mc ?_ | refine So_ma ?_ | refine So_mv ?_) | (refine q_as ?_; first | refine So_ac ?_ | refine So_aa ?_ | refine So_av ?_) | (refine q_ld ?_; first | refine So_lb ?_ | refine So_la ?_ | refine So_lp ?_ | refine So_lpa ?_ | refine So_lx ?_ | refine So_lxa ?_ | refine So_lxO ?_ | refine So_lxaO ?_ | (refine So_lna (ll := l) (fun x hx => ?_); have hx1 := hleg x (List.mem_of_getElem? hx); simp only [legOk, decide_eq_true_eq] at hx1; have hms := MS_succ hx) | refine So_ln (fun x hx => ?_) | refine So_lna (fun x hx => ?_) | refine So_lnO (fun x hx => ?_) | refine So_lnaO (fun x hx => ?_)) | (refine q_fa ?_; first | refine So_fa ?_ | refine So_fe ?_) | (refine q_ia ?_; first | refine So_ia ?_ | refine So_iaO ?_) | (refine q_bin ?_; first | refine So_lss ?_ | refine So_leq ?_ | refine So_gtr ?_ | refine So_geq ?_ | refine So_eql ?_ | refine So_neq ?_ | refine So_add ?_ | refine So_sub ?_ | refine So_mul ?_ | refine So_quo ?_ | refine So_rem ?_ | refine So_eqb ?_ | refine So_neb ?_) | (refine q_pk ?_; first | refine So_pt ?_ | refine So_pf ?_ | refine So_pb ?_) | (refine q_un ?_; first | refine So_notd ?_ | refine So_not ?_) | (refine q_len ?_; first | refine So_len ?_ | refine So_len0 ?_ | refine So_lenO ?_) | (refine q_st ?_; first | refine So_st (fun Hb hsb => ?_) | refine So_stO (fun Hb hsb => ?_)) | (refine q_ex ?_; first | refine So_ex ?_) | (refine q_sl ?_; first | refine So_slh ?_ | refine So_sll ?_) | (refine q_f ?_; first | refine So_f ?_ | refine So_ff ?_) | (refine q_bi ?_; first | refine So_min ?_ | refine So_max ?_) | (refine q_rt ?_; first | refine Rt1 ?_ | refine Rt2 ?_ | refine Rt3 ?_ | refine Ro1 ?_ | refine Ro2 ?_ | refine Ro3 ?_) | refine So_box (fun kb Hb hsb => ?_) | refine So_alloc (fun kb Hb hsb => ?_) | refine So_mf ?_)
  · push_cast at hbi1
    refine ⟨by omega, ka, _, _, S.set i (max mo (need + x.most)), rfl, rfl, rfl, rfl, rfl, rfl, rfl, rfl, rfl, rfl, vint_s, hsb.sub (.cons _ (.refl _)), by rw [List.length_set]; exact hS, by rw [hms]; omega, by omega, by omega, fun j y hj hy => ?_, fun j y z hj hy hz => ?_, fun w hw => ?_⟩
    · by_cases hji : i = j
      · rw [hji, List.getElem?_set_self (by omega)] at hy
        injection hy with hy
        rw [← hji]
        omega
      · rw [List.getElem?_set_ne hji] at hy
        have := hA j y (by omega) hy
        omega
    · by_cases hji : i = j + 1
      · rw [hji, List.getElem?_set_self (by omega)] at hz
        rw [List.getElem?_set_ne (by omega)] at hy
        have := hA j y (by omega) hy
        injection hz with hz
        omega
      · rw [List.getElem?_set_ne (by omega)] at hy hz
        exact hM j y z (by omega) hy hz
    · obtain ⟨q1, q2⟩ := hX w hw
      have q3 := hw.le hx
      have q4 := hw.at hx
      refine ⟨by omega, fun j y hj hy => ?_⟩
      by_cases hji : i = j
      · rw [hji, List.getElem?_set_self (by omega)] at hy
        injection hy with hy
        rw [← hji]
        omega
      · rw [List.getElem?_set_ne hji] at hy
        exact q2 j y (by omega) hy
  · have hi' : i = l.length := by omega
    subst hi'
    clear hneed hbi hbi1
    have hX' : ∀ w, SP tank reserve start l w → ∀ (j : Nat) y, S[j]? = some y → y ≤ psl w (j + 1) := fun w hw j y hy => (hX w hw).2 j y (by have := (List.getElem?_eq_some_iff.1 hy).1; omega) hy
    have hA' : ∀ (j : Nat) y, S[j]? = some y → 0 ≤ y ∧ reserve - start + MS l (j + 1) ≤ y ∧ y ≤ 100000000 := fun j y hy => by
      have := hA j y (by have := (List.getElem?_eq_some_iff.1 hy).1; omega) hy
      omega
    have hM' : ∀ (j : Nat) y z, S[j]? = some y → S[j + 1]? = some z → y ≤ z := fun j y z hy hz => hM j y z (by have := (List.getElem?_eq_some_iff.1 hz).1; omega) hy hz
    clear hA hM hX hg
    refine Ev.loop (fun m e h => ∃ (ka : Nat) (p : Int) (S : List Int), m = (p + 1).toNat ∧ e 0 = vint tank ∧ e 1 = vint reserve ∧ e 2 = vint start ∧ e 3 = .one c ∧ e 10 = vint l.length ∧ e 11 = .one (.sl ka l.length 0 l.length) ∧ e 16 = vint p ∧ Hs H h [(ka, .arr 1 (S.map intC))] ∧ S.length = l.length ∧ -2 ≤ p ∧ p ≤ l.length - 2 ∧
      (∀ w, SP tank reserve start l w → ∀ (j : Nat) y, S[j]? = some y → y ≤ psl w (j + 1)) ∧ (∀ (j : Nat) y, S[j]? = some y → 0 ≤ y ∧ reserve - start + MS l (j + 1) ≤ y ∧ y ≤ 100000000) ∧ (∀ (j : Nat) y z, S[j]? = some y → S[j + 1]? = some z → y ≤ z) ∧
      (∀ (j : Nat) y z x, p < j → S[j]? = some y → S[j + 1]? = some z → l[j + 1]? = some x → z - y ≤ x.fill)) ?_
      ⟨ka, _, S, rfl, rfl, rfl, rfl, rfl, rfl, rfl, rfl, hs, hS, by omega, by omega, hX', hA', hM', fun j y z x hj hy hz => by have := (List.getElem?_eq_some_iff.1 hz).1; omega⟩
    clear hX' hA' hM' hs hS
    rintro m e h ⟨ka, p, S, rfl, e1, e2, e3, e4, e5, e6, e7, hs, hS, hp1, hp2, hX, hA, hM, hB⟩
    obtain ⟨e0, rfl⟩ := form7 e1 e2 e3 e4 e5 e6 e7
    clear e1 e2 e3 e4 e5 e6 e7
    by_cases hp : 0 ≤ p
    · obtain ⟨k, rfl⟩ := Int.eq_ofNat_of_zero_le hp
      obtain ⟨y0, hy0⟩ : ∃ y, S[k]? = some y := ⟨_, List.getElem?_eq_getElem (by omega)⟩
      obtain ⟨z0, hz0⟩ : ∃ y, S[k + 1]? = some y := ⟨_, List.getElem?_eq_getElem (by omega)⟩
      obtain ⟨x0, hx0⟩ : ∃ y, l[k + 1]? = some y := ⟨_, List.getElem?_eq_getElem (by omega)⟩
      have ay := hA _ _ hy0
      have az := hA _ _ hz0
      have ax := hleg x0 (List.mem_of_getElem? hx0)
      simp only [legOk, decide_eq_true_eq] at ax
      have hyz := hM _ _ _ hy0 hz0
      repeat' (first | (refine q_ev ?_; first | refine Ev_seq.2 ?_ | refine Ev_block.2 ?_ | refine Ev_rp ?_ | refine Ev_rs ?_ | refine Ev_rt ?_ | refine Ev_skip.2 ?_ | refine Ev_ret.2 ?_ | refine Ev_exit.2 ?_ | refine Ev_ct ?_ | refine Ev_cf ?_ | refine Ev_cn (fun hg => ?_) (fun hg => ?_) | refine Ev_cd (fun hg => ?_) (fun hg => ?_) | refine Ev_cm (fun hg => ?_) (fun hg => ?_) | refine Ev_cs (fun hg => ?_) (fun hg => ?_)) | (refine q_nt ?_; first | refine So_nilR ?_) | (refine q_nil ?_; first | refine So_nil ?_) | (refine q_g ?_; first | refine So_gy ?_ | refine So_gn ?_ | refine So_gu ?_ | refine So_gTn (fun hg => ?_) (fun hg => ?_) | refine So_gFn (fun hg => ?_) (fun hg => ?_) | refine So_gT (fun hg => ?_) (fun hg => ?_) | refine So_gF (fun hg => ?_) (fun hg => ?_) | refine So_gTm (fun hg => ?_) (fun hg => ?_) | refine So_gFm (fun hg => ?_) (fun hg => ?_) | refine So_gTb (fun hg => ?_) (fun hg => ?_) | refine So_gFb (fun hg => ?_) (fun hg => ?_)) | (refine q_mv ?_; first | refine So_mc ?_ | refine So_ma ?_ | refine So_mv ?_) | (refine q_as ?_; first | refine So_ac ?_ | refine So_aa ?_ | refine So_av ?_) | (refine q_ld ?_; first | refine So_lb ?_ | refine So_la ?_ | refine So_lp ?_ | refine So_lpa ?_ | refine So_lx ?_ | refine So_lxa ?_ | refine So_lxO ?_ | refine So_lxaO ?_ | refine So_ln (fun x hx => ?_) | refine So_lna (fun x hx => ?_) | refine So_lnO (fun x hx => ?_) | refine So_lnaO (fun x hx => ?_)) | (refine q_fa ?_; first | refine So_fa ?_ | refine So_fe ?_) | (refine q_ia ?_; first | refine So_ia ?_ | refine So_iaO ?_) | (refine q_bin ?_; first | refine So_lss ?_ | refine So_leq ?_ | refine So_gtr ?_ | refine So_geq ?_ | refine So_eql ?_ | refine So_neq ?_ | refine So_add ?_ | refine So_sub ?_ | refine So_mul ?_ | refine So_quo ?_ | refine So_rem ?_ | refine So_eqb ?_ | refine So_neb ?_) | (refine q_pk ?_; first | refine So_pt ?_ | refine So_pf ?_ | refine So_pb ?_) | (refine q_un ?_; first | refine So_notd ?_ | refine So_not ?_) | (refine q_len ?_; first | refine So_len ?_ | refine So_len0 ?_ | refine So_lenO ?_) | (refine q_st ?_; first | refine So_st (fun Hb hsb => ?_) | refine So_stO (fun Hb hsb => ?_)) | (refine q_ex ?_; first | refine So_ex ?_) | (refine q_sl ?_; first | refine So_slh ?_ | refine So_sll ?_) | (refine q_f ?_; first | refine So_f ?_ | refine So_ff ?_) | (refine q_bi ?_; first | refine So_min ?_ | refine So_max ?_) | (refine q_rt ?_; first | refine Rt1 ?_ | refine Rt2 ?_ | refine Rt3 ?_ | refine Ro1 ?_ | refine Ro2 ?_ | refine Ro3 ?_) | refine So_box (fun kb Hb hsb => ?_) | refine So_alloc (fun kb Hb hsb => ?_) | refine So_mf ?_)
      have hset : ∀ {j : Nat} {v y : Int}, (S.set k v)[j]? = some y → (j = k ∧ y = v) ∨ (j ≠ k ∧ S[j]? = some y) := fun {j v y} h => by
        by_cases hjk : k = j
        · rw [hjk, List.getElem?_set_self (by have := (List.getElem?_eq_some_iff.1 h).1; simpa using this)] at h
          injection h with h
          exact .inl ⟨hjk.symm, h.symm⟩
        · rw [List.getElem?_set_ne hjk] at h
          exact .inr ⟨fun e => hjk e.symm, h⟩
      · refine ⟨_, ?_, ka, (k : Int) - 1, S.set k (max y0 (z0 - x0.fill)), rfl, rfl, rfl, rfl, rfl, rfl, rfl, rfl, hsb, by rw [List.length_set]; exact hS, by omega, by omega, fun w hw j y hj => ?_, fun j y hj => ?_, fun j y z hy hz => ?_, fun j y z x hj hy hz hx => ?_⟩
        · show ((k : Int) - 1 + 1).toNat < _
          omega
        · rcases hset hj with ⟨rfl, rfl⟩ | ⟨_, hj⟩
          · have q1 := hX w hw _ _ hy0
            have q2 := hX w hw _ _ hz0
            have q3 := hw.le hx0
            omega
          · exact hX w hw _ _ hj
        · rcases hset hj with ⟨rfl, rfl⟩ | ⟨_, hj⟩
          · omega
          · exact hA _ _ hj
        · rcases hset hy with ⟨h1, rfl⟩ | ⟨h1, hy'⟩ <;> rcases hset hz with ⟨h2, rfl⟩ | ⟨h2, hz'⟩
          · omega
          · rw [h1] at hz'
            obtain rfl := uniq hz0 hz'
            omega
          · rw [← h2] at hy0
            have := hM _ _ _ hy' hy0
            omega
          · exact hM _ _ _ hy' hz'
        · rcases hset hz with ⟨h2, rfl⟩ | ⟨h2, hz'⟩
          · omega
          · rcases hset hy with ⟨h1, rfl⟩ | ⟨h1, hy'⟩
            · rw [h1] at hz' hx
              obtain rfl := uniq hz0 hz'
              obtain rfl := uniq hx0 hx
              omega
            · exact hB j y z x (by omega) hy' hz' hx
    · repeat' (first | refine So_ms (f := intC) (e0 := 0) (fun kb Hb hsb => ?_) | (refine q_ev ?_; first | refine Ev_seq.2 ?_ | refine Ev_block.2 ?_ | refine Ev_rp ?_ | refine Ev_rs ?_ | refine Ev_rt ?_ | refine Ev_skip.2 ?_ | refine Ev_ret.2 ?_ | refine Ev_exit.2 ?_ | refine Ev_ct ?_ | refine Ev_cf ?_ | refine Ev_cn (fun hg => ?_) (fun hg => ?_) | refine Ev_cd (fun hg => ?_) (fun hg => ?_) | refine Ev_cm (fun hg => ?_) (fun hg => ?_) | refine Ev_cs (fun hg => ?_) (fun hg => ?_)) | (refine q_nt ?_; first | refine So_nilR ?_) | (refine q_nil ?_; first | refine So_nil ?_) | (refine q_g ?_; first | refine So_gy ?_ | refine So_gn ?_ | refine So_gu ?_ | refine So_gTn (fun hg => ?_) (fun hg => ?_) | refine So_gFn (fun hg => ?_) (fun hg => ?_) | refine So_gT (fun hg => ?_) (fun hg => ?_) | refine So_gF (fun hg => ?_) (fun hg => ?_) | refine So_gTm (fun hg => ?_) (fun hg => ?_) | refine So_gFm (fun hg => ?_) (fun hg => ?_) | refine So_gTb (fun hg => ?_) (fun hg => ?_) | refine So_gFb (fun hg => ?_) (fun hg => ?_)) | (refine q_mv ?_; first | refine So_mc ?_ | refine So_ma ?_ | refine So_mv ?_) | (refine q_as ?_; first | refine So_ac ?_ | refine So_aa ?_ | refine So_av ?_) | (refine q_ld ?_; first | refine So_lb ?_ | refine So_la ?_ | refine So_lp ?_ | refine So_lpa ?_ | refine So_lx ?_ | refine So_lxa ?_ | refine So_lxO ?_ | refine So_lxaO ?_ | refine So_ln (fun x hx => ?_) | refine So_lna (fun x hx => ?_) | refine So_lnO (fun x hx => ?_) | refine So_lnaO (fun x hx => ?_)) | (refine q_fa ?_; first | refine So_fa ?_ | refine So_fe ?_) | (refine q_ia ?_; first | refine So_ia ?_ | refine So_iaO ?_) | (refine q_bin ?_; first | refine So_lss ?_ | refine So_leq ?_ | refine So_gtr ?_ | refine So_geq ?_ | refine So_eql ?_ | refine So_neq ?_ | refine So_add ?_ | refine So_sub ?_ | refine So_mul ?_ | refine So_quo ?_ | refine So_rem ?_ | refine So_eqb ?_ | refine So_neb ?_) | (refine q_pk ?_; first | refine So_pt ?_ | refine So_pf ?_ | refine So_pb ?_) | (refine q_un ?_; first | refine So_notd ?_ | refine So_not ?_) | (refine q_len ?_; first | refine So_len ?_ | refine So_len0 ?_ | refine So_lenO ?_) | (refine q_st ?_; first | refine So_st (fun Hb hsb => ?_) | refine So_stO (fun Hb hsb => ?_)) | (refine q_ex ?_; first | refine So_ex ?_) | (refine q_sl ?_; first | refine So_slh ?_ | refine So_sll ?_) | (refine q_f ?_; first | refine So_f ?_ | refine So_ff ?_) | (refine q_bi ?_; first | refine So_min ?_ | refine So_max ?_) | (refine q_rt ?_; first | refine Rt1 ?_ | refine Rt2 ?_ | refine Rt3 ?_ | refine Ro1 ?_ | refine Ro2 ?_ | refine Ro3 ?_) | refine So_box (fun kb Hb hsb => ?_) | refine So_alloc (fun kb Hb hsb => ?_) | refine So_mf ?_)
      · exfalso; omega
      have hB' : ∀ (j : Nat) y z x, S[j]? = some y → S[j + 1]? = some z → l[j + 1]? = some x → z - y ≤ x.fill := fun j y z x h1 h2 h3 => hB j y z x (by omega) h1 h2 h3
      clear hB hp1 hp2
      refine Ev_for l.length (fun i e h => ∃ (ka ko : Nat) (O : List Int) (bf : Int), e 0 = vint tank ∧ e 1 = vint reserve ∧ e 2 = vint start ∧ e 3 = .one c ∧ e 17 = .one (.sl ko l.length 0 l.length) ∧ e 18 = vint bf ∧ e 81 = .one (.sl ka l.length 0 l.length) ∧ e 82 = vint l.length ∧ e 83 = vint i ∧ Hs H h [(ko, .arr 1 (O.map intC)), (ka, .arr 1 (S.map intC))] ∧ O.length = l.length ∧ bf = psl O i ∧ (0 < i → S[i - 1]? = some bf) ∧ (i = 0 → bf = 0) ∧ 0 ≤ bf ∧ bf ≤ 100000000 ∧
        (∀ (j : Nat) y, j < i → S[j]? = some y → psl O (j + 1) = y) ∧ (∀ (j : Nat) x y, j < i → l[j]? = some x → O[j]? = some y → 0 ≤ y ∧ y ≤ x.fill)) ?_
        ⟨ka, _, List.replicate l.length 0, 0, rfl, rfl, rfl, rfl, rfl, rfl, rfl, rfl, rfl, hsb, by simp, by simp [psl_zero], fun h => by omega, fun _ => rfl, by omega, by omega, fun j y hj => by omega, fun j x y hj => by omega⟩
      clear hs hsb
      rintro i e h hi ⟨ka, ko, O, bf, e1, e2, e3, e4, e5, e6, e7, e8, e9, hs, hO, hbf, hbf1, hbf0, hbf2, hbf3, hP, hF⟩
      obtain ⟨e0, rfl⟩ := form9 e1 e2 e3 e4 e5 e6 e7 e8 e9
      clear e1 e2 e3 e4 e5 e6 e7 e8 e9
      by_cases hin : i < l.length
      · obtain ⟨o0, ho0⟩ : ∃ y, O[i]? = some y := ⟨_, List.getElem?_eq_getElem (by omega)⟩
        obtain ⟨y, hy⟩ : ∃ y, S[i]? = some y := ⟨_, List.getElem?_eq_getElem (by omega)⟩
        obtain ⟨x0, hx0⟩ : ∃ y, l[i]? = some y := ⟨_, List.getElem?_eq_getElem hin⟩
        have ay := hA _ _ hy
        have hnew : (O.set i (y - bf))[i]? = some (y - bf) := List.getElem?_set_self (by omega)
        have hpo : psl (O.set i (y - bf)) (i + 1) = y := by
          rw [psl_set ho0, psl_succ ho0, if_pos (by omega)]
          omega
        have hle : bf ≤ y := by
          by_cases h0 : i = 0
          · have := hbf0 h0; omega
          · exact hM (i - 1) bf y (hbf1 (by omega)) (by rw [show i - 1 + 1 = i by omega]; exact hy)
        repeat' (first | (refine q_ev ?_; first | refine Ev_seq.2 ?_ | refine Ev_block.2 ?_ | refine Ev_rp ?_ | refine Ev_rs ?_ | refine Ev_rt ?_ | refine Ev_skip.2 ?_ | refine Ev_ret.2 ?_ | refine Ev_exit.2 ?_ | refine Ev_ct ?_ | refine Ev_cf ?_ | refine Ev_cn (fun hg => ?_) (fun hg => ?_) | refine Ev_cd (fun hg => ?_) (fun hg => ?_) | refine Ev_cm (fun hg => ?_) (fun hg => ?_) | refine Ev_cs (fun hg => ?_) (fun hg => ?_)) | (refine q_nt ?_; first | refine So_nilR ?_) | (refine q_nil ?_; first | refine So_nil ?_) | (refine q_g ?_; first | refine So_gy ?_ | refine So_gn ?_ | refine So_gu ?_ | refine So_gTn (fun hg => ?_) (fun hg => ?_) | refine So_gFn (fun hg => ?_) (fun hg => ?_) | refine So_gT (fun hg => ?_) (fun hg => ?_) | refine So_gF (fun hg => ?_) (fun hg => ?_) | refine So_gTm (fun hg => ?_) (fun hg => ?_) | refine So_gFm (fun hg => ?_) (fun hg => ?_) | refine So_gTb (fun hg => ?_) (fun hg => ?_) | refine So_gFb (fun hg => ?_) (fun hg => ?_)) | (refine q_mv ?_; first | refine So_mc ?_ | refine So_ma ?_ | refine So_mv ?_) | (refine q_as ?_; first | refine So_ac ?_ | refine So_aa ?_ | refine So_av ?_) | (refine q_ld ?_; first | refine So_lb ?_ | refine So_la ?_ | refine So_lp ?_ | refine So_lpa ?_ | refine So_lx ?_ | refine So_lxa ?_ | refine So_lxO ?_ | refine So_lxaO ?_ | refine So_ln (fun x hx => ?_) | refine So_lna (fun x hx => ?_) | refine So_lnO (fun x hx => ?_) | refine So_lnaO (fun x hx => ?_)) | (refine q_fa ?_; first | refine So_fa ?_ | refine So_fe ?_) | (refine q_ia ?_; first | refine So_ia ?_ | refine So_iaO ?_) | (refine q_bin ?_; first | refine So_lss ?_ | refine So_leq ?_ | refine So_gtr ?_ | refine So_geq ?_ | refine So_eql ?_ | refine So_neq ?_ | refine So_add ?_ | refine So_sub ?_ | refine So_mul ?_ | refine So_quo ?_ | refine So_rem ?_ | refine So_eqb ?_ | refine So_neb ?_) | (refine q_pk ?_; first | refine So_pt ?_ | refine So_pf ?_ | refine So_pb ?_) | (refine q_un ?_; first | refine So_notd ?_ | refine So_not ?_) | (refine q_len ?_; first | refine So_len ?_ | refine So_len0 ?_ | refine So_lenO ?_) | (refine q_st ?_; first | refine So_st (fun Hb hsb => ?_) | refine So_stO (fun Hb hsb => ?_)) | (refine q_ex ?_; first | refine So_ex ?_) | (refine q_sl ?_; first | refine So_slh ?_ | refine So_sll ?_) | (refine q_f ?_; first | refine So_f ?_ | refine So_ff ?_) | (refine q_bi ?_; first | refine So_min ?_ | refine So_max ?_) | (refine q_rt ?_; first | refine Rt1 ?_ | refine Rt2 ?_ | refine Rt3 ?_ | refine Ro1 ?_ | refine Ro2 ?_ | refine Ro3 ?_) | refine So_box (fun kb Hb hsb => ?_) | refine So_alloc (fun kb Hb hsb => ?_) | refine So_mf ?_)
        · refine .inr ⟨rfl, fun w hw => ?_⟩
          by_cases h0 : i = 0
          · have q1 := hX w hw _ _ hy
            have q2 := hw.le hx0
            have q3 := hbf0 h0
            rw [h0] at q1 q2
            rw [psl_zero] at q2
            omega
          · have := hB' (i - 1) bf y x0 (hbf1 (by omega)) (by rw [show i - 1 + 1 = i by omega]; exact hy) (by rw [show i - 1 + 1 = i by omega]; exact hx0)
            omega
        · refine ⟨by omega, ka, ko, O.set i (y - bf), y, rfl, rfl, rfl, rfl, rfl, rfl, rfl, rfl, vint_s, hsb, by rw [List.length_set]; exact hO, hpo.symm, fun _ => by rw [Nat.add_sub_cancel]; exact hy, fun h => by omega, by omega, by omega, fun j z hj hz => ?_, fun j x z hj hx hz => ?_⟩
          · by_cases hji : j = i
            · rw [hji] at hz ⊢
              obtain rfl := uniq hy hz
              exact hpo
            · rw [psl_set ho0, if_neg (by omega), hP j z (by omega) hz]
              omega
          · by_cases hji : j = i
            · rw [hji] at hx hz
              obtain rfl := uniq hx0 hx
              obtain rfl := uniq hnew hz
              omega
            · rw [List.getElem?_set_ne (fun e => hji e.symm)] at hz
              exact hF j x z (by omega) hx hz
        · exfalso; omega
      · have hi' : i = l.length := by omega
        subst hi'
        have hOb : ∀ x ∈ O, -10000000 ≤ x ∧ x ≤ 1000000 := fun y hy => by
          obtain ⟨j, hj⟩ := List.getElem?_of_mem hy
          have hjl := (List.getElem?_eq_some_iff.1 hj).1
          obtain ⟨x, hx⟩ : ∃ x, l[j]? = some x := ⟨_, List.getElem?_eq_getElem (by omega)⟩
          have h1 := hF j x y (by omega) hx hj
          have h2 := hleg x (List.mem_of_getElem? hx)
          simp only [legOk, decide_eq_true_eq] at h2
          omega
        have hps : ∀ (j : Nat), j < l.length → ∃ y, S[j]? = some y ∧ psl O (j + 1) = y := fun j hj => by
          obtain ⟨y, hy⟩ : ∃ y, S[j]? = some y := ⟨_, List.getElem?_eq_getElem (by omega)⟩
          exact ⟨y, hy, hP j y hj hy⟩
        have hLe : ∀ w, SP tank reserve start l w → ∀ j, j ≤ l.length → psl O j ≤ psl w j := fun w hw j hj => by
          cases j with
          | zero => rw [psl_zero, psl_zero]; omega
          | succ j =>
            obtain ⟨y, h1, h2⟩ := hps j (by omega)
            rw [h2]
            exact hX w hw j y h1
        have hsp : (∃ w, SP tank reserve start l w) → SP tank reserve start l O := by
          rintro ⟨w, hw⟩
          refine ⟨hO, fun j x y hx hy => ?_⟩
          have hj := (List.getElem?_eq_some_iff.1 hx).1
          have h1 := hF j x y hj hx hy
          obtain ⟨z, h2, h3⟩ := hps j hj
          have h4 := hA j z h2
          have h5 := hLe w hw (j + 1) (by omega)
          have h6 := hw.at hx
          omega
        have hsafe : safeS tank reserve start start l O = true → SP tank reserve start l O := fun h => by
          rw [← SafeS_iff]
          unfold SafeS
          rw [h, decide_eq_true hO, (insideS_iff hO).2 (fun j x y hx hy => hF j x y (List.getElem?_eq_some_iff.1 hx).1 hx hy)]
          rfl
        repeat' (first | (refine q_ev ?_; first | refine Ev_seq.2 ?_ | refine Ev_block.2 ?_ | refine Ev_rp ?_ | refine Ev_rs ?_ | refine Ev_rt ?_ | refine Ev_skip.2 ?_ | refine Ev_ret.2 ?_ | refine Ev_exit.2 ?_ | refine Ev_ct ?_ | refine Ev_cf ?_ | refine Ev_cn (fun hg => ?_) (fun hg => ?_) | refine Ev_cd (fun hg => ?_) (fun hg => ?_) | refine Ev_cm (fun hg => ?_) (fun hg => ?_) | refine Ev_cs (fun hg => ?_) (fun hg => ?_)) | (refine q_nt ?_; first | refine So_nilR ?_) | (refine q_nil ?_; first | refine So_nil ?_) | (refine q_g ?_; first | refine So_gy ?_ | refine So_gn ?_ | refine So_gu ?_ | refine So_gTn (fun hg => ?_) (fun hg => ?_) | refine So_gFn (fun hg => ?_) (fun hg => ?_) | refine So_gT (fun hg => ?_) (fun hg => ?_) | refine So_gF (fun hg => ?_) (fun hg => ?_) | refine So_gTm (fun hg => ?_) (fun hg => ?_) | refine So_gFm (fun hg => ?_) (fun hg => ?_) | refine So_gTb (fun hg => ?_) (fun hg => ?_) | refine So_gFb (fun hg => ?_) (fun hg => ?_)) | (refine q_mv ?_; first | refine So_mc ?_ | refine So_ma ?_ | refine So_mv ?_) | (refine q_as ?_; first | refine So_ac ?_ | refine So_aa ?_ | refine So_av ?_) | (refine q_ld ?_; first | refine So_lb ?_ | refine So_la ?_ | refine So_lp ?_ | refine So_lpa ?_ | refine So_lx ?_ | refine So_lxa ?_ | refine So_lxO ?_ | refine So_lxaO ?_ | refine So_ln (fun x hx => ?_) | refine So_lna (fun x hx => ?_) | refine So_lnO (fun x hx => ?_) | refine So_lnaO (fun x hx => ?_)) | (refine q_fa ?_; first | refine So_fa ?_ | refine So_fe ?_) | (refine q_ia ?_; first | refine So_ia ?_ | refine So_iaO ?_) | (refine q_cl ?_; first | refine So_fn (safe_cv tank reserve start _ (hc.up hs) (own_sl hs (.head _) hO) (by omega) hO (by omega) hleg hOb) ?_) | (refine q_bin ?_; first | refine So_lss ?_ | refine So_leq ?_ | refine So_gtr ?_ | refine So_geq ?_ | refine So_eql ?_ | refine So_neq ?_ | refine So_add ?_ | refine So_sub ?_ | refine So_mul ?_ | refine So_quo ?_ | refine So_rem ?_ | refine So_eqb ?_ | refine So_neb ?_) | (refine q_pk ?_; first | refine So_pt ?_ | refine So_pf ?_ | refine So_pb ?_) | (refine q_un ?_; first | refine So_notd ?_ | refine So_not ?_) | (refine q_len ?_; first | refine So_len ?_ | refine So_len0 ?_ | refine So_lenO ?_) | (refine q_st ?_; first | refine So_st (fun Hb hsb => ?_) | refine So_stO (fun Hb hsb => ?_)) | (refine q_ex ?_; first | refine So_ex ?_) | (refine q_sl ?_; first | refine So_slh ?_ | refine So_sll ?_) | (refine q_f ?_; first | refine So_f ?_ | refine So_ff ?_) | (refine q_bi ?_; first | refine So_min ?_ | refine So_max ?_) | (refine q_rt ?_; first | refine Rt1 ?_ | refine Rt2 ?_ | refine Rt3 ?_ | refine Ro1 ?_ | refine Ro2 ?_ | refine Ro3 ?_) | refine So_box (fun kb Hb hsb => ?_) | refine So_alloc (fun kb Hb hsb => ?_) | refine So_mf ?_)
        · exfalso; omega
        · exfalso; omega
        · refine .inr ⟨rfl, fun w hw => ?_⟩
          have h1 := hsp ⟨w, hw⟩
          rw [← SafeS_iff] at h1
          unfold SafeS at h1
          rw [hg] at h1
          simp at h1
        · exact .inl ⟨O, rfl, hsafe hg, hLe⟩
end Go.AM.Car
