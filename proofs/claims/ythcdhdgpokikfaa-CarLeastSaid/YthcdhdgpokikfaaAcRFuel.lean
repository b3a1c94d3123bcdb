/- The document's Fuel. -/
import Derived.Test.YthcdhdgpokikfaaAcFuelG
open Go.Proofs
namespace Go.AM.Car
set_option maxRecDepth 10000
set_option maxHeartbeats 4000000

theorem psl_bounds {l : List Leg} {a : List Int} (hlen : a.length = l.length) (hleg : ∀ x ∈ l, legOk x = true) (h : ∀ (j : Nat) x y, l[j]? = some x → a[j]? = some y → 0 ≤ y ∧ y ≤ x.fill) : ∀ j : Nat, 0 ≤ psl a j ∧ psl a j ≤ j * 1000000 := by
  intro j
  induction j with
  | zero => rw [psl_zero]; omega
  | succ j ih =>
    by_cases hj : j < a.length
    · have hy := List.getElem?_eq_getElem hj
      have hx := List.getElem?_eq_getElem (show j < l.length by omega)
      have h1 := h j _ _ hx hy
      have h2 := hleg _ (List.getElem_mem (show j < l.length by omega))
      simp only [legOk, decide_eq_true_eq] at h2
      rw [psl_succ hy]
      push_cast
      omega
    · rw [psl_over (by omega)]
      push_cast
      omega
theorem FG.start {tank reserve start : Int} {l : List Leg} (hleg : ∀ x ∈ l, legOk x = true) (hs : start ≤ tank) : FG tank reserve start l 0 0 0 (List.replicate l.length 0) := by
  have hz : ∀ (j : Nat) y, (List.replicate l.length (0 : Int))[j]? = some y → y = 0 := fun j y h => by
    have := List.mem_of_getElem? h
    exact (List.mem_replicate.1 this).2
  refine ⟨by simp, fun j x y hx hy => ?_, fun j y _ hy => hz j y hy, fun j hj => by omega, fun j hj => ?_, fun w _ j hj => ?_⟩
  · have h1 := hz j y hy
    have h2 := hleg x (List.mem_of_getElem? hx)
    simp only [legOk, decide_eq_true_eq] at h2
    omega
  · have h1 := psl_flat (z := 0) (fun j y _ h => hz j y h) (j + 1) (by omega)
    have h2 := (MS_bounds hleg j).2.2.1
    rw [h1, psl_zero]
    omega
  · rw [show j = 0 by omega, psl_zero, psl_zero]; omega

theorem rFuel_cv {c : Cell} {l : List Leg} (tank reserve start : Int) (H : AH) (hc : Sl H 3 c (l.map legC)) (hl : l.length ≤ 9223372036854775807) (ht : tankOk tank reserve start l = true) :
    Cv Try.prog 27 [vint tank, vint reserve, vint start, .one c] H (Cl (fun r => (∃ w, r = .tup [.one (.lst 1 (w.map intC)), vbool true] ∧ Least tank reserve start l w) ∨ (r = .tup [.one cnil, vbool false] ∧ ∀ w, ¬SP tank reserve start l w))) := by
  have ht' := ht
  simp only [tankOk, Bool.and_eq_true, decide_eq_true_eq, List.all_eq_true] at ht'
  obtain ⟨⟨t1, t2, t3, t4, t5, t6, t7⟩, hleg⟩ := ht'
  have hb := MS_bounds hleg
  refine Cv_of Try.func27 rfl rfl rfl (fun H1 hs => ?_)
  repeat' (first | refine So_ms (f := intC) (e0 := 0) (fun kb Hb hsb => ?_) | (refine q_ev ?_; first | refine Ev_seq.2 ?_ | refine Ev_block.2 ?_ | refine Ev_rp ?_ | refine Ev_rs ?_ | refine Ev_rt ?_ | refine Ev_skip.2 ?_ | refine Ev_ret.2 ?_ | refine Ev_exit.2 ?_ | refine Ev_ct ?_ | refine Ev_cf ?_ | refine Ev_cn (fun hg => ?_) (fun hg => ?_) | refine Ev_cd (fun hg => ?_) (fun hg => ?_) | refine Ev_cm (fun hg => ?_) (fun hg => ?_) | refine Ev_cs (fun hg => ?_) (fun hg => ?_)) | (refine q_nt ?_; first | refine So_nilR ?_) | (refine q_nil ?_; first | refine So_nil ?_) | (refine q_g ?_; first | refine So_gy ?_ | refine So_gn ?_ | refine So_gu ?_ | refine So_gTn (fun hg => ?_) (fun hg => ?_) | refine So_gFn (fun hg => ?_) (fun hg => ?_) | refine So_gT (fun hg => ?_) (fun hg => ?_) | refine So_gF (fun hg => ?_) (fun hg => ?_) | refine So_gTm (fun hg => ?_) (fun hg => ?_) | refine So_gFm (fun hg => ?_) (fun hg => ?_) | refine So_gTb (fun hg => ?_) (fun hg => ?_) | refine So_gFb (fun hg => ?_) (fun hg => ?_)) | (refine q_mv ?_; first | refine So_mc ?_ | refine So_ma ?_ | refine So_mv ?_) | (refine q_as ?_; first | refine So_ac ?_ | refine So_aa ?_ | refine So_av ?_) | (refine q_ld ?_; first | refine So_lb ?_ | refine So_la ?_ | refine So_lp ?_ | refine So_lpa ?_ | refine So_lx ?_ | refine So_lxa ?_ | refine So_lxO ?_ | refine So_lxaO ?_ | refine So_ln (fun x hx => ?_) | refine So_lna (fun x hx => ?_) | refine So_lnO (fun x hx => ?_) | refine So_lnaO (fun x hx => ?_)) | (refine q_fa ?_; first | refine So_fa ?_ | refine So_fe ?_) | (refine q_ia ?_; first | refine So_ia ?_ | refine So_iaO ?_) | (refine q_bin ?_; first | refine So_lss ?_ | refine So_leq ?_ | refine So_gtr ?_ | refine So_geq ?_ | refine So_eql ?_ | refine So_neq ?_ | refine So_add ?_ | refine So_sub ?_ | refine So_mul ?_ | refine So_quo ?_ | refine So_rem ?_ | refine So_eqb ?_ | refine So_neb ?_) | (refine q_pk ?_; first | refine So_pt ?_ | refine So_pf ?_ | refine So_pb ?_) | (refine q_un ?_; first | refine So_notd ?_ | refine So_not ?_) | (refine q_len ?_; first | refine So_len ?_ | refine So_len0 ?_ | refine So_lenO ?_) | (refine q_st ?_; first | refine So_st (fun Hb hsb => ?_) | refine So_stO (fun Hb hsb => ?_)) | (refine q_ex ?_; first | refine So_ex ?_) | (refine q_sl ?_; first | refine So_slh ?_ | refine So_sll ?_) | (refine q_f ?_; first | refine So_f ?_ | refine So_ff ?_) | (refine q_bi ?_; first | refine So_min ?_ | refine So_max ?_) | (refine q_rt ?_; first | refine Rt1 ?_ | refine Rt2 ?_ | refine Rt3 ?_ | refine Ro1 ?_ | refine Ro2 ?_ | refine Ro3 ?_) | refine So_box (fun kb Hb hsb => ?_) | refine So_alloc (fun kb Hb hsb => ?_) | refine So_mf ?_)
  refine Ev_for l.length (fun i e h => ∃ (ka : Nat) (a : List Int), e 0 = vint tank ∧ e 1 = vint reserve ∧ e 2 = vint start ∧ e 3 = .one c ∧ e 10 = .one (.sl ka l.length 0 l.length) ∧ e 11 = vint i ∧ Hs H h [(ka, .arr 1 (a.map intC))] ∧ FG tank reserve start l i i i a) ?_
    ⟨_, List.replicate l.length 0, rfl, rfl, rfl, rfl, rfl, rfl, hsb, FG.start hleg t6⟩
  clear hsb hs
  rintro i e h hi ⟨ka, a, e1, e2, e3, e4, e5, e6, hs, g⟩
  obtain ⟨e0, rfl⟩ := form6 e1 e2 e3 e4 e5 e6
  clear e1 e2 e3 e4 e5 e6
  have hlen := g.len
  repeat' (first | (refine q_ev ?_; first | refine Ev_seq.2 ?_ | refine Ev_block.2 ?_ | refine Ev_rp ?_ | refine Ev_rs ?_ | refine Ev_rt ?_ | refine Ev_skip.2 ?_ | refine Ev_ret.2 ?_ | refine Ev_exit.2 ?_ | refine Ev_ct ?_ | refine Ev_cf ?_ | refine Ev_cn (fun hg => ?_) (fun hg => ?_) | refine Ev_cd (fun hg => ?_) (fun hg => ?_) | refine Ev_cm (fun hg => ?_) (fun hg => ?_) | refine Ev_cs (fun hg => ?_) (fun hg => ?_)) | (refine q_nt ?_; first | refine So_nilR ?_) | (refine q_nil ?_; first | refine So_nil ?_) | (refine q_g ?_; first | refine So_gy ?_ | refine So_gn ?_ | refine So_gu ?_ | refine So_gTn (fun hg => ?_) (fun hg => ?_) | refine So_gFn (fun hg => ?_) (fun hg => ?_) | refine So_gT (fun hg => ?_) (fun hg => ?_) | refine So_gF (fun hg => ?_) (fun hg => ?_) | refine So_gTm (fun hg => ?_) (fun hg => ?_) | refine So_gFm (fun hg => ?_) (fun hg => ?_) | refine So_gTb (fun hg => ?_) (fun hg => ?_) | refine So_gFb (fun hg => ?_) (fun hg => ?_)) | (refine q_mv ?_; first | refine So_mc ?_ | refine So_ma ?_ | refine So_mv ?_) | (refine q_as ?_; first | refine So_ac ?_ | refine So_aa ?_ | refine So_av ?_) | (refine q_ld ?_; first | refine So_lb ?_ | refine So_la ?_ | refine So_lp ?_ | refine So_lpa ?_ | refine So_lx ?_ | refine So_lxa ?_ | refine So_lxO ?_ | refine So_lxaO ?_ | refine So_ln (fun x hx => ?_) | refine So_lna (fun x hx => ?_) | refine So_lnO (fun x hx => ?_) | refine So_lnaO (fun x hx => ?_)) | (refine q_fa ?_; first | refine So_fa ?_ | refine So_fe ?_) | (refine q_ia ?_; first | refine So_ia ?_ | refine So_iaO ?_) | (refine q_bin ?_; first | refine So_lss ?_ | refine So_leq ?_ | refine So_gtr ?_ | refine So_geq ?_ | refine So_eql ?_ | refine So_neq ?_ | refine So_add ?_ | refine So_sub ?_ | refine So_mul ?_ | refine So_quo ?_ | refine So_rem ?_ | refine So_eqb ?_ | refine So_neb ?_) | (refine q_pk ?_; first | refine So_pt ?_ | refine So_pf ?_ | refine So_pb ?_) | (refine q_un ?_; first | refine So_notd ?_ | refine So_not ?_) | (refine q_len ?_; first | refine So_len ?_ | refine So_len0 ?_ | refine So_lenO ?_) | (refine q_st ?_; first | refine So_st (fun Hb hsb => ?_) | refine So_stO (fun Hb hsb => ?_)) | (refine q_ex ?_; first | refine So_ex ?_) | (refine q_sl ?_; first | refine So_slh ?_ | refine So_sll ?_) | (refine q_f ?_; first | refine So_f ?_ | refine So_ff ?_) | (refine q_bi ?_; first | refine So_min ?_ | refine So_max ?_) | (refine q_rt ?_; first | refine Rt1 ?_ | refine Rt2 ?_ | refine Rt3 ?_ | refine Ro1 ?_ | refine Ro2 ?_ | refine Ro3 ?_) | refine So_box (fun kb Hb hsb => ?_) | refine So_alloc (fun kb Hb hsb => ?_) | refine So_mf ?_)
  · have hin : i < l.length := by omega
    replace g := g.next hin
    have hpb := psl_bounds hlen hleg g.bd
    -- the level behind the leg i, at worst
    refine Ev_for (i + 1) (fun k e h => e 0 = vint tank ∧ e 1 = vint reserve ∧ e 2 = vint start ∧ e 3 = .one c ∧ e 10 = .one (.sl ka l.length 0 l.length) ∧ e 11 = vint i ∧ e 12 = vint (start + psl a k - MS l k) ∧ e 13 = vint k ∧ Hs H h [(ka, .arr 1 (a.map intC))]) ?_ ⟨rfl, rfl, rfl, rfl, rfl, rfl, by simp [MS, psl_zero, upd, putE], rfl, hs⟩
    clear hs
    rintro k e h hk ⟨e1, e2, e3, e4, e5, e6, e7, e8, hs⟩
    obtain ⟨e0, rfl⟩ := form8 e1 e2 e3 e4 e5 e6 e7 e8
    clear e1 e2 e3 e4 e5 e6 e7 e8
    have b1 := hpb k
    have b2 := hb k
    repeat' (first | (refine q_ev ?_; first | refine Ev_seq.2 ?_ | refine Ev_block.2 ?_ | refine Ev_rp ?_ | refine Ev_rs ?_ | refine Ev_rt ?_ | refine Ev_skip.2 ?_ | refine Ev_ret.2 ?_ | refine Ev_exit.2 ?_ | refine Ev_ct ?_ | refine Ev_cf ?_ | refine Ev_cn (fun hg => ?_) (fun hg => ?_) | refine Ev_cd (fun hg => ?_) (fun hg => ?_) | refine Ev_cm (fun hg => ?_) (fun hg => ?_) | refine Ev_cs (fun hg => ?_) (fun hg => ?_)) | (refine q_nt ?_; first | refine So_nilR ?_) | (refine q_nil ?_; first | refine So_nil ?_) | (refine q_g ?_; first | refine So_gy ?_ | refine So_gn ?_ | refine So_gu ?_ | refine So_gTn (fun hg => ?_) (fun hg => ?_) | refine So_gFn (fun hg => ?_) (fun hg => ?_) | refine So_gT (fun hg => ?_) (fun hg => ?_) | refine So_gF (fun hg => ?_) (fun hg => ?_) | refine So_gTm (fun hg => ?_) (fun hg => ?_) | refine So_gFm (fun hg => ?_) (fun hg => ?_) | refine So_gTb (fun hg => ?_) (fun hg => ?_) | refine So_gFb (fun hg => ?_) (fun hg => ?_)) | (refine q_mv ?_; first | refine So_mc ?_ | refine So_ma ?_ | refine So_mv ?_) | (refine q_as ?_; first | refine So_ac ?_ | refine So_aa ?_ | refine So_av ?_) | (refine q_ld ?_; first | refine So_lb ?_ | refine So_la ?_ | refine So_lp ?_ | refine So_lpa ?_ | refine So_lx ?_ | refine So_lxa ?_ | refine So_lxO ?_ | refine So_lxaO ?_ | (refine So_lnO (ll := a) (fun y hy => ?_); have hy1 := psl_succ hy; have hy2 := hpb (k + 1)) | (refine So_ln (ll := l) (fun x hx => ?_); have hx1 := hleg x (List.mem_of_getElem? hx); simp only [legOk, decide_eq_true_eq] at hx1; have hms := MS_succ hx) | refine So_ln (fun x hx => ?_) | refine So_lna (fun x hx => ?_) | refine So_lnO (fun x hx => ?_) | refine So_lnaO (fun x hx => ?_)) | (refine q_fa ?_; first | refine So_fa ?_ | refine So_fe ?_) | (refine q_ia ?_; first | refine So_ia ?_ | refine So_iaO ?_) | (refine q_bin ?_; first | refine So_lss ?_ | refine So_leq ?_ | refine So_gtr ?_ | refine So_geq ?_ | refine So_eql ?_ | refine So_neq ?_ | refine So_add ?_ | refine So_sub ?_ | refine So_mul ?_ | refine So_quo ?_ | refine So_rem ?_ | refine So_eqb ?_ | refine So_neb ?_) | (refine q_pk ?_; first | refine So_pt ?_ | refine So_pf ?_ | refine So_pb ?_) | (refine q_un ?_; first | refine So_notd ?_ | refine So_not ?_) | (refine q_len ?_; first | refine So_len ?_ | refine So_len0 ?_ | refine So_lenO ?_) | (refine q_st ?_; first | refine So_st (fun Hb hsb => ?_) | refine So_stO (fun Hb hsb => ?_)) | (refine q_ex ?_; first | refine So_ex ?_) | (refine q_sl ?_; first | refine So_slh ?_ | refine So_sll ?_) | (refine q_f ?_; first | refine So_f ?_ | refine So_ff ?_) | (refine q_bi ?_; first | refine So_min ?_ | refine So_max ?_) | (refine q_rt ?_; first | refine Rt1 ?_ | refine Rt2 ?_ | refine Rt3 ?_ | refine Ro1 ?_ | refine Ro2 ?_ | refine Ro3 ?_) | refine So_box (fun kb Hb hsb => ?_) | refine So_alloc (fun kb Hb hsb => ?_) | refine So_mf ?_)
    · exact ⟨by omega, rfl, rfl, rfl, rfl, rfl, rfl, congrArg vint (by omega), vint_s, hs⟩
    have hki : k = i + 1 := by omega
    subst hki
    clear hg hk b1 b2 hpb
    -- from as late a zone as there is room
    refine Ev.loop (fun m e h => ∃ (ka : Nat) (a : List Int) (p low : Int), m = (p + 1).toNat ∧ e 0 = vint tank ∧ e 1 = vint reserve ∧ e 2 = vint start ∧ e 3 = .one c ∧ e 10 = .one (.sl ka l.length 0 l.length) ∧ e 11 = vint i ∧ e 12 = vint low ∧ e 14 = vint p ∧ Hs H h [(ka, .arr 1 (a.map intC))] ∧ low = start + psl a (i + 1) - MS l (i + 1) ∧ FG tank reserve start l (i + 1) i (i + 1) a ∧ -1 ≤ p ∧ p ≤ i ∧ (low < reserve → Sat tank start l i a p)) ?_
      ⟨ka, a, i, _, rfl, rfl, rfl, rfl, rfl, rfl, rfl, rfl, rfl, hs, rfl, g, by omega, by omega, fun _ t x y h1 h2 => by omega⟩
    clear hs hlen g
    rintro m e h ⟨ka, a, p, low, rfl, e1, e2, e3, e4, e5, e6, e7, e8, hs, hlow, g, hp1, hp2, hsat⟩
    obtain ⟨e0, rfl⟩ := form8 e1 e2 e3 e4 e5 e6 e7 e8
    clear e1 e2 e3 e4 e5 e6 e7 e8
    have hlen := g.len
    have hpb := psl_bounds hlen hleg g.bd
    have b1 := hpb (i + 1)
    have b2 := hb (i + 1)
    push_cast at b1 b2
    by_cases hp : 0 ≤ p
    · obtain ⟨k, rfl⟩ := Int.eq_ofNat_of_zero_le hp
      obtain ⟨x0, hx0⟩ : ∃ x, l[k]? = some x := ⟨_, List.getElem?_eq_getElem (by omega)⟩
      obtain ⟨y0, hy0⟩ : ∃ x, a[k]? = some x := ⟨_, List.getElem?_eq_getElem (by omega)⟩
      have hbd := g.bd k _ _ hx0 hy0
      have hx1 := hleg x0 (List.mem_of_getElem? hx0)
      simp only [legOk, decide_eq_true_eq] at hx1
      repeat' (first | (refine q_ev ?_; first | refine Ev_seq.2 ?_ | refine Ev_block.2 ?_ | refine Ev_rp ?_ | refine Ev_rs ?_ | refine Ev_rt ?_ | refine Ev_skip.2 ?_ | refine Ev_ret.2 ?_ | refine Ev_exit.2 ?_ | refine Ev_ct ?_ | refine Ev_cf ?_ | refine Ev_cn (fun hg => ?_) (fun hg => ?_) | refine Ev_cd (fun hg => ?_) (fun hg => ?_) | refine Ev_cm (fun hg => ?_) (fun hg => ?_) | refine Ev_cs (fun hg => ?_) (fun hg => ?_)) | (refine q_nt ?_; first | refine So_nilR ?_) | (refine q_nil ?_; first | refine So_nil ?_) | (refine q_g ?_; first | refine So_gy ?_ | refine So_gn ?_ | refine So_gu ?_ | refine So_gTn (fun hg => ?_) (fun hg => ?_) | refine So_gFn (fun hg => ?_) (fun hg => ?_) | refine So_gT (fun hg => ?_) (fun hg => ?_) | refine So_gF (fun hg => ?_) (fun hg => ?_) | refine So_gTm (fun hg => ?_) (fun hg => ?_) | refine So_gFm (fun hg => ?_) (fun hg => ?_) | refine So_gTb (fun hg => ?_) (fun hg => ?_) | refine So_gFb (fun hg => ?_) (fun hg => ?_)) | (refine q_mv ?_; first | refine So_mc ?_ | refine So_ma ?_ | refine So_mv ?_) | (refine q_as ?_; first | refine So_ac ?_ | refine So_aa ?_ | refine So_av ?_) | (refine q_ld ?_; first | refine So_lb ?_ | refine So_la ?_ | refine So_lp ?_ | refine So_lpa ?_ | refine So_lx ?_ | refine So_lxa ?_ | refine So_lxO ?_ | refine So_lxaO ?_ | refine So_ln (fun x hx => ?_) | refine So_lna (fun x hx => ?_) | refine So_lnO (fun x hx => ?_) | refine So_lnaO (fun x hx => ?_)) | (refine q_fa ?_; first | refine So_fa ?_ | refine So_fe ?_) | (refine q_ia ?_; first | refine So_ia ?_ | refine So_iaO ?_) | (refine q_bin ?_; first | refine So_lss ?_ | refine So_leq ?_ | refine So_gtr ?_ | refine So_geq ?_ | refine So_eql ?_ | refine So_neq ?_ | refine So_add ?_ | refine So_sub ?_ | refine So_mul ?_ | refine So_quo ?_ | refine So_rem ?_ | refine So_eqb ?_ | refine So_neb ?_) | (refine q_pk ?_; first | refine So_pt ?_ | refine So_pf ?_ | refine So_pb ?_) | (refine q_un ?_; first | refine So_notd ?_ | refine So_not ?_) | (refine q_len ?_; first | refine So_len ?_ | refine So_len0 ?_ | refine So_lenO ?_) | (refine q_st ?_; first | refine So_st (fun Hb hsb => ?_) | refine So_stO (fun Hb hsb => ?_)) | (refine q_ex ?_; first | refine So_ex ?_) | (refine q_sl ?_; first | refine So_slh ?_ | refine So_sll ?_) | (refine q_f ?_; first | refine So_f ?_ | refine So_ff ?_) | (refine q_bi ?_; first | refine So_min ?_ | refine So_max ?_) | (refine q_rt ?_; first | refine Rt1 ?_ | refine Rt2 ?_ | refine Rt3 ?_ | refine Ro1 ?_ | refine Ro2 ?_ | refine Ro3 ?_) | refine So_box (fun kb Hb hsb => ?_) | refine So_alloc (fun kb Hb hsb => ?_) | refine So_mf ?_)
      · have hlt := hg
        refine Ev_for l.length (fun j e h => ∃ room, e 0 = vint tank ∧ e 1 = vint reserve ∧ e 2 = vint start ∧ e 3 = .one c ∧ e 10 = .one (.sl ka l.length 0 l.length) ∧ e 11 = vint i ∧ e 12 = vint low ∧ e 14 = vint k ∧ e 15 = vint room ∧ e 16 = vint (start + psl a j - LS l j) ∧ e 17 = vint j ∧ Hs H h [(ka, .arr 1 (a.map intC))] ∧ room ≤ x0.fill - y0 ∧ -1000000000 ≤ room ∧ (∀ j', j' < j → k ≤ j' → j' ≤ i → room ≤ tank - (start + psl a (j' + 1) - LS l j')) ∧
          (room = x0.fill - y0 ∨ ∃ j', k ≤ j' ∧ j' ≤ i ∧ room = tank - (start + psl a (j' + 1) - LS l j'))) ?_
          ⟨_, rfl, rfl, rfl, rfl, rfl, rfl, rfl, rfl, rfl, by simp [LS, psl_zero, upd, putE], rfl, hs, by omega, by omega, fun j' h => by omega, .inl rfl⟩
        clear hs
        rintro j e h hj ⟨room, e1, e2, e3, e4, e5, e6, e7, e8, e9, e10, e11, hs, r1, r2, r3, r4⟩
        obtain ⟨e0, rfl⟩ := form11 e1 e2 e3 e4 e5 e6 e7 e8 e9 e10 e11
        clear e1 e2 e3 e4 e5 e6 e7 e8 e9 e10 e11
        have c1 := hpb j
        have c2 := hb j
        by_cases hjl : j < l.length
        · obtain ⟨x, hx⟩ : ∃ x, l[j]? = some x := ⟨_, List.getElem?_eq_getElem hjl⟩
          obtain ⟨y, hy⟩ : ∃ x, a[j]? = some x := ⟨_, List.getElem?_eq_getElem (by omega)⟩
          have hy1 := psl_succ hy
          have hy2 := hpb (j + 1)
          push_cast at hy2
          have hx2 := hleg x (List.mem_of_getElem? hx)
          simp only [legOk, decide_eq_true_eq] at hx2
          have hls := LS_succ hx
          have hbd2 := g.bd j _ _ hx hy
          repeat' (first | (refine q_ev ?_; first | refine Ev_seq.2 ?_ | refine Ev_block.2 ?_ | refine Ev_rp ?_ | refine Ev_rs ?_ | refine Ev_rt ?_ | refine Ev_skip.2 ?_ | refine Ev_ret.2 ?_ | refine Ev_exit.2 ?_ | refine Ev_ct ?_ | refine Ev_cf ?_ | refine Ev_cn (fun hg => ?_) (fun hg => ?_) | refine Ev_cd (fun hg => ?_) (fun hg => ?_) | refine Ev_cm (fun hg => ?_) (fun hg => ?_) | refine Ev_cs (fun hg => ?_) (fun hg => ?_)) | (refine q_nt ?_; first | refine So_nilR ?_) | (refine q_nil ?_; first | refine So_nil ?_) | (refine q_g ?_; first | refine So_gy ?_ | refine So_gn ?_ | refine So_gu ?_ | refine So_gTn (fun hg => ?_) (fun hg => ?_) | refine So_gFn (fun hg => ?_) (fun hg => ?_) | refine So_gT (fun hg => ?_) (fun hg => ?_) | refine So_gF (fun hg => ?_) (fun hg => ?_) | refine So_gTm (fun hg => ?_) (fun hg => ?_) | refine So_gFm (fun hg => ?_) (fun hg => ?_) | refine So_gTb (fun hg => ?_) (fun hg => ?_) | refine So_gFb (fun hg => ?_) (fun hg => ?_)) | (refine q_mv ?_; first | refine So_mc ?_ | refine So_ma ?_ | refine So_mv ?_) | (refine q_as ?_; first | refine So_ac ?_ | refine So_aa ?_ | refine So_av ?_) | (refine q_ld ?_; first | refine So_lb ?_ | refine So_la ?_ | refine So_lp ?_ | refine So_lpa ?_ | refine So_lx ?_ | refine So_lxa ?_ | refine So_lxO ?_ | refine So_lxaO ?_ | refine So_ln (fun x hx => ?_) | refine So_lna (fun x hx => ?_) | refine So_lnO (fun x hx => ?_) | refine So_lnaO (fun x hx => ?_)) | (refine q_fa ?_; first | refine So_fa ?_ | refine So_fe ?_) | (refine q_ia ?_; first | refine So_ia ?_ | refine So_iaO ?_) | (refine q_bin ?_; first | refine So_lss ?_ | refine So_leq ?_ | refine So_gtr ?_ | refine So_geq ?_ | refine So_eql ?_ | refine So_neq ?_ | refine So_add ?_ | refine So_sub ?_ | refine So_mul ?_ | refine So_quo ?_ | refine So_rem ?_ | refine So_eqb ?_ | refine So_neb ?_) | (refine q_pk ?_; first | refine So_pt ?_ | refine So_pf ?_ | refine So_pb ?_) | (refine q_un ?_; first | refine So_notd ?_ | refine So_not ?_) | (refine q_len ?_; first | refine So_len ?_ | refine So_len0 ?_ | refine So_lenO ?_) | (refine q_st ?_; first | refine So_st (fun Hb hsb => ?_) | refine So_stO (fun Hb hsb => ?_)) | (refine q_ex ?_; first | refine So_ex ?_) | (refine q_sl ?_; first | refine So_slh ?_ | refine So_sll ?_) | (refine q_f ?_; first | refine So_f ?_ | refine So_ff ?_) | (refine q_bi ?_; first | refine So_min ?_ | refine So_max ?_) | (refine q_rt ?_; first | refine Rt1 ?_ | refine Rt2 ?_ | refine Rt3 ?_ | refine Ro1 ?_ | refine Ro2 ?_ | refine Ro3 ?_) | refine So_box (fun kb Hb hsb => ?_) | refine So_alloc (fun kb Hb hsb => ?_) | refine So_mf ?_)
          · refine ⟨by omega, min room (tank - (start + psl a j - LS l j + y)), rfl, rfl, rfl, rfl, rfl, rfl, rfl, rfl, rfl, congrArg vint (by omega), vint_s, hs, by omega, by omega, fun j' h1 h2 h3 => ?_, ?_⟩
            · by_cases he : j' = j
              · subst he; omega
              · have := r3 j' (by omega) h2 h3; omega
            · by_cases hmin : room ≤ tank - (start + psl a j - LS l j + y)
              · rw [Int.min_eq_left hmin]; exact r4
              · rw [Int.min_eq_right (by omega)]; exact .inr ⟨j, by omega, by omega, by omega⟩
          · exact ⟨by omega, room, rfl, rfl, rfl, rfl, rfl, rfl, rfl, rfl, rfl, congrArg vint (by omega), vint_s, hs, by omega, by omega, fun j' h1 h2 h3 => r3 j' (by omega) h2 h3, r4⟩
          · exact ⟨by omega, room, rfl, rfl, rfl, rfl, rfl, rfl, rfl, rfl, rfl, congrArg vint (by omega), vint_s, hs, by omega, by omega, fun j' h1 h2 h3 => r3 j' (by omega) h2 h3, r4⟩
          · exfalso; omega
          · exfalso; omega
        · have hj' : j = l.length := by omega
          subst hj'
          repeat' (first | (refine q_ev ?_; first | refine Ev_seq.2 ?_ | refine Ev_block.2 ?_ | refine Ev_rp ?_ | refine Ev_rs ?_ | refine Ev_rt ?_ | refine Ev_skip.2 ?_ | refine Ev_ret.2 ?_ | refine Ev_exit.2 ?_ | refine Ev_ct ?_ | refine Ev_cf ?_ | refine Ev_cn (fun hg => ?_) (fun hg => ?_) | refine Ev_cd (fun hg => ?_) (fun hg => ?_) | refine Ev_cm (fun hg => ?_) (fun hg => ?_) | refine Ev_cs (fun hg => ?_) (fun hg => ?_)) | (refine q_nt ?_; first | refine So_nilR ?_) | (refine q_nil ?_; first | refine So_nil ?_) | (refine q_g ?_; first | refine So_gy ?_ | refine So_gn ?_ | refine So_gu ?_ | refine So_gTn (fun hg => ?_) (fun hg => ?_) | refine So_gFn (fun hg => ?_) (fun hg => ?_) | refine So_gT (fun hg => ?_) (fun hg => ?_) | refine So_gF (fun hg => ?_) (fun hg => ?_) | refine So_gTm (fun hg => ?_) (fun hg => ?_) | refine So_gFm (fun hg => ?_) (fun hg => ?_) | refine So_gTb (fun hg => ?_) (fun hg => ?_) | refine So_gFb (fun hg => ?_) (fun hg => ?_)) | (refine q_mv ?_; first | refine So_mc ?_ | refine So_ma ?_ | refine So_mv ?_) | (refine q_as ?_; first | refine So_ac ?_ | refine So_aa ?_ | refine So_av ?_) | (refine q_ld ?_; first | refine So_lb ?_ | refine So_la ?_ | refine So_lp ?_ | refine So_lpa ?_ | refine So_lx ?_ | refine So_lxa ?_ | refine So_lxO ?_ | refine So_lxaO ?_ | refine So_ln (fun x hx => ?_) | refine So_lna (fun x hx => ?_) | refine So_lnO (fun x hx => ?_) | refine So_lnaO (fun x hx => ?_)) | (refine q_fa ?_; first | refine So_fa ?_ | refine So_fe ?_) | (refine q_ia ?_; first | refine So_ia ?_ | refine So_iaO ?_) | (refine q_bin ?_; first | refine So_lss ?_ | refine So_leq ?_ | refine So_gtr ?_ | refine So_geq ?_ | refine So_eql ?_ | refine So_neq ?_ | refine So_add ?_ | refine So_sub ?_ | refine So_mul ?_ | refine So_quo ?_ | refine So_rem ?_ | refine So_eqb ?_ | refine So_neb ?_) | (refine q_pk ?_; first | refine So_pt ?_ | refine So_pf ?_ | refine So_pb ?_) | (refine q_un ?_; first | refine So_notd ?_ | refine So_not ?_) | (refine q_len ?_; first | refine So_len ?_ | refine So_len0 ?_ | refine So_lenO ?_) | (refine q_st ?_; first | refine So_st (fun Hb hsb => ?_) | refine So_stO (fun Hb hsb => ?_)) | (refine q_ex ?_; first | refine So_ex ?_) | (refine q_sl ?_; first | refine So_slh ?_ | refine So_sll ?_) | (refine q_f ?_; first | refine So_f ?_ | refine So_ff ?_) | (refine q_bi ?_; first | refine So_min ?_ | refine So_max ?_) | (refine q_rt ?_; first | refine Rt1 ?_ | refine Rt2 ?_ | refine Rt3 ?_ | refine Ro1 ?_ | refine Ro2 ?_ | refine Ro3 ?_) | refine So_box (fun kb Hb hsb => ?_) | refine So_alloc (fun kb Hb hsb => ?_) | refine So_mf ?_)
          · exfalso; omega
          · exfalso; omega
          · exfalso; omega
          · have hfull : ∀ (t : Nat) x y, k < t → t ≤ i → l[t]? = some x → a[t]? = some y → y = x.fill := fun t x y h1 h2 h3 h4 => by
              rcases hsat hlt t x y (by omega) h2 h3 h4 with h | ⟨j', q1, q2, q3⟩
              · exact h
              · have := r3 j' (by omega) (by omega) q2
                omega
            have hm0 : 0 < min room (reserve - low) := by omega
            have g' := g.step hleg hin (by omega) hx0 hy0 hm0 (by omega) (fun j' h1 h2 => by have := r3 j' (by omega) h1 h2; omega) (by omega) hfull
            have hps : ∀ j', psl (a.set k (y0 + min room (reserve - low))) j' = psl a j' + if k < j' then min room (reserve - low) else 0 := fun j' => by
              rw [psl_set hy0]
              split <;> omega
            refine ⟨_, ?_, ka, a.set k (y0 + min room (reserve - low)), (k : Int) - 1, low + min room (reserve - low), rfl, rfl, rfl, rfl, rfl, rfl, rfl, rfl, rfl, hsb, ?_, g', by omega, by omega, fun hl2 t x y h1 h2 h3 h4 => ?_⟩
            · show ((k : Int) - 1 + 1).toNat < _
              omega
            · rw [hps, if_pos (by omega)]; omega
            · by_cases htk : t = k
              · rw [htk] at h3 h4 ⊢
                rw [List.getElem?_set_self (by omega)] at h4
                injection h4 with h4
                obtain rfl := uniq hx0 h3
                rcases r4 with r4 | ⟨j', q1, q2, q3⟩
                · exact .inl (by omega)
                · exact .inr ⟨j', q1, q2, by rw [hps, if_pos (by omega)]; omega⟩
              · rw [List.getElem?_set_ne (fun e => htk e.symm)] at h4
                exact .inl (hfull t x y (by omega) h2 h3 h4)
          · refine ⟨_, ?_, ka, a, (k : Int) - 1, low, rfl, rfl, rfl, rfl, rfl, rfl, rfl, rfl, rfl, hs, hlow, g, by omega, by omega, fun hl2 t x y h1 h2 h3 h4 => ?_⟩
            · show ((k : Int) - 1 + 1).toNat < _
              omega
            · by_cases htk : t = k
              · rw [htk] at h3 h4 ⊢
                obtain rfl := uniq hx0 h3
                obtain rfl := uniq hy0 h4
                rcases r4 with r4 | ⟨j', q1, q2, q3⟩
                · exact .inl (by omega)
                · have := g.hi j' (by omega)
                  exact .inr ⟨j', q1, q2, by omega⟩
              · exact hsat hlt t x y (by omega) h2 h3 h4
      · exfalso; omega
      · exact ⟨hin, ka, a, rfl, rfl, rfl, rfl, rfl, vint_s, hs, g.done (by omega)⟩
    · have hp1' : p = -1 := by omega
      rw [hp1'] at hsat
      repeat' (first | (refine q_ev ?_; first | refine Ev_seq.2 ?_ | refine Ev_block.2 ?_ | refine Ev_rp ?_ | refine Ev_rs ?_ | refine Ev_rt ?_ | refine Ev_skip.2 ?_ | refine Ev_ret.2 ?_ | refine Ev_exit.2 ?_ | refine Ev_ct ?_ | refine Ev_cf ?_ | refine Ev_cn (fun hg => ?_) (fun hg => ?_) | refine Ev_cd (fun hg => ?_) (fun hg => ?_) | refine Ev_cm (fun hg => ?_) (fun hg => ?_) | refine Ev_cs (fun hg => ?_) (fun hg => ?_)) | (refine q_nt ?_; first | refine So_nilR ?_) | (refine q_nil ?_; first | refine So_nil ?_) | (refine q_g ?_; first | refine So_gy ?_ | refine So_gn ?_ | refine So_gu ?_ | refine So_gTn (fun hg => ?_) (fun hg => ?_) | refine So_gFn (fun hg => ?_) (fun hg => ?_) | refine So_gT (fun hg => ?_) (fun hg => ?_) | refine So_gF (fun hg => ?_) (fun hg => ?_) | refine So_gTm (fun hg => ?_) (fun hg => ?_) | refine So_gFm (fun hg => ?_) (fun hg => ?_) | refine So_gTb (fun hg => ?_) (fun hg => ?_) | refine So_gFb (fun hg => ?_) (fun hg => ?_)) | (refine q_mv ?_; first | refine So_mc ?_ | refine So_ma ?_ | refine So_mv ?_) | (refine q_as ?_; first | refine So_ac ?_ | refine So_aa ?_ | refine So_av ?_) | (refine q_ld ?_; first | refine So_lb ?_ | refine So_la ?_ | refine So_lp ?_ | refine So_lpa ?_ | refine So_lx ?_ | refine So_lxa ?_ | refine So_lxO ?_ | refine So_lxaO ?_ | refine So_ln (fun x hx => ?_) | refine So_lna (fun x hx => ?_) | refine So_lnO (fun x hx => ?_) | refine So_lnaO (fun x hx => ?_)) | (refine q_fa ?_; first | refine So_fa ?_ | refine So_fe ?_) | (refine q_ia ?_; first | refine So_ia ?_ | refine So_iaO ?_) | (refine q_bin ?_; first | refine So_lss ?_ | refine So_leq ?_ | refine So_gtr ?_ | refine So_geq ?_ | refine So_eql ?_ | refine So_neq ?_ | refine So_add ?_ | refine So_sub ?_ | refine So_mul ?_ | refine So_quo ?_ | refine So_rem ?_ | refine So_eqb ?_ | refine So_neb ?_) | (refine q_pk ?_; first | refine So_pt ?_ | refine So_pf ?_ | refine So_pb ?_) | (refine q_un ?_; first | refine So_notd ?_ | refine So_not ?_) | (refine q_len ?_; first | refine So_len ?_ | refine So_len0 ?_ | refine So_lenO ?_) | (refine q_st ?_; first | refine So_st (fun Hb hsb => ?_) | refine So_stO (fun Hb hsb => ?_)) | (refine q_ex ?_; first | refine So_ex ?_) | (refine q_sl ?_; first | refine So_slh ?_ | refine So_sll ?_) | (refine q_f ?_; first | refine So_f ?_ | refine So_ff ?_) | (refine q_bi ?_; first | refine So_min ?_ | refine So_max ?_) | (refine q_rt ?_; first | refine Rt1 ?_ | refine Rt2 ?_ | refine Rt3 ?_ | refine Ro1 ?_ | refine Ro2 ?_ | refine Ro3 ?_) | refine So_box (fun kb Hb hsb => ?_) | refine So_alloc (fun kb Hb hsb => ?_) | refine So_mf ?_)
      · exfalso; omega
      · exfalso; omega
      · exfalso; omega
      · exact .inr ⟨rfl, g.fail hin (by omega) (hsat hg)⟩
      · exact ⟨hin, ka, a, rfl, rfl, rfl, rfl, rfl, vint_s, hs, g.done (by omega)⟩
  · have hi' : i = l.length := by omega
    subst hi'
    have hfin := g.fin
    have hS : SafeS tank reserve start l a = true := SafeS_iff.2 hfin.1
    repeat' (first | (refine q_ev ?_; first | refine Ev_seq.2 ?_ | refine Ev_block.2 ?_ | refine Ev_rp ?_ | refine Ev_rs ?_ | refine Ev_rt ?_ | refine Ev_skip.2 ?_ | refine Ev_ret.2 ?_ | refine Ev_exit.2 ?_ | refine Ev_ct ?_ | refine Ev_cf ?_ | refine Ev_cn (fun hg => ?_) (fun hg => ?_) | refine Ev_cd (fun hg => ?_) (fun hg => ?_) | refine Ev_cm (fun hg => ?_) (fun hg => ?_) | refine Ev_cs (fun hg => ?_) (fun hg => ?_)) | (refine q_nt ?_; first | refine So_nilR ?_) | (refine q_nil ?_; first | refine So_nil ?_) | (refine q_g ?_; first | refine So_gy ?_ | refine So_gn ?_ | refine So_gu ?_ | refine So_gTn (fun hg => ?_) (fun hg => ?_) | refine So_gFn (fun hg => ?_) (fun hg => ?_) | refine So_gT (fun hg => ?_) (fun hg => ?_) | refine So_gF (fun hg => ?_) (fun hg => ?_) | refine So_gTm (fun hg => ?_) (fun hg => ?_) | refine So_gFm (fun hg => ?_) (fun hg => ?_) | refine So_gTb (fun hg => ?_) (fun hg => ?_) | refine So_gFb (fun hg => ?_) (fun hg => ?_)) | (refine q_mv ?_; first | refine So_mc ?_ | refine So_ma ?_ | refine So_mv ?_) | (refine q_as ?_; first | refine So_ac ?_ | refine So_aa ?_ | refine So_av ?_) | (refine q_ld ?_; first | refine So_lb ?_ | refine So_la ?_ | refine So_lp ?_ | refine So_lpa ?_ | refine So_lx ?_ | refine So_lxa ?_ | refine So_lxO ?_ | refine So_lxaO ?_ | refine So_ln (fun x hx => ?_) | refine So_lna (fun x hx => ?_) | refine So_lnO (fun x hx => ?_) | refine So_lnaO (fun x hx => ?_)) | (refine q_fa ?_; first | refine So_fa ?_ | refine So_fe ?_) | (refine q_ia ?_; first | refine So_ia ?_ | refine So_iaO ?_) | (refine q_cl ?_; first | refine So_fn (v := vbool true) (hS ▸ rSafe_cv tank reserve start _ (hc.up hs) (own_sl hs (.head _) hlen) hl (by omega) ht) ?_) | (refine q_bin ?_; first | refine So_lss ?_ | refine So_leq ?_ | refine So_gtr ?_ | refine So_geq ?_ | refine So_eql ?_ | refine So_neq ?_ | refine So_add ?_ | refine So_sub ?_ | refine So_mul ?_ | refine So_quo ?_ | refine So_rem ?_ | refine So_eqb ?_ | refine So_neb ?_) | (refine q_pk ?_; first | refine So_pt ?_ | refine So_pf ?_ | refine So_pb ?_) | (refine q_un ?_; first | refine So_notd ?_ | refine So_not ?_) | (refine q_len ?_; first | refine So_len ?_ | refine So_len0 ?_ | refine So_lenO ?_) | (refine q_st ?_; first | refine So_st (fun Hb hsb => ?_) | refine So_stO (fun Hb hsb => ?_)) | (refine q_ex ?_; first | refine So_ex ?_) | (refine q_sl ?_; first | refine So_slh ?_ | refine So_sll ?_) | (refine q_f ?_; first | refine So_f ?_ | refine So_ff ?_) | (refine q_bi ?_; first | refine So_min ?_ | refine So_max ?_) | (refine q_rt ?_; first | refine Rt1 ?_ | refine Rt2 ?_ | refine Rt3 ?_ | refine Ro1 ?_ | refine Ro2 ?_ | refine Ro3 ?_) | refine So_box (fun kb Hb hsb => ?_) | refine So_alloc (fun kb Hb hsb => ?_) | refine So_mf ?_)
    exact .inl ⟨a, rfl, hfin⟩
end Go.AM.Car
