/- The document's Possible; CarPossible. -/
import Derived.Test.YthcdhdgpokikfaaAcPoss
open Go.Proofs
namespace Go.AM.Car
set_option maxRecDepth 10000
set_option maxHeartbeats 4000000

theorem Possible_bad {cs : List Compound} {ls : List (List Stretch)} {a b : Cell} (al x : Int) (H : AH) (hc : ∀ c ∈ cs, Sized c) (hcl : cs.length ≤ 9223372036854775807) (hl : ∀ l ∈ ls, l.length ≤ 9223372036854775807) (hll : ls.length ≤ 9223372036854775807) (ht : ¬TaskOk cs ls al) :
    Cv Try.prog 40 [.one (.lst 4 (cs.map Compound.cells)), .one (.lst 1 (ls.map loopC)), vint al, .agg [a, b, cint x]] H (Cl (· = .tup [vint 0, vbool false])) := by
  refine Cv_of Try.func40 rfl rfl rfl (fun H1 hs => ?_)
  repeat' (first | (refine q_ev ?_; first | refine Ev_seq.2 ?_ | refine Ev_block.2 ?_ | refine Ev_rp ?_ | refine Ev_rs ?_ | refine Ev_rt ?_ | refine Ev_skip.2 ?_ | refine Ev_ret.2 ?_ | refine Ev_exit.2 ?_ | refine Ev_ct ?_ | refine Ev_cf ?_ | refine Ev_cn (fun hg => ?_) (fun hg => ?_) | refine Ev_cd (fun hg => ?_) (fun hg => ?_) | refine Ev_cm (fun hg => ?_) (fun hg => ?_) | refine Ev_cs (fun hg => ?_) (fun hg => ?_)) | (refine q_nt ?_; first | refine So_nilR ?_) | (refine q_nil ?_; first | refine So_nil ?_) | (refine q_g ?_; first | refine So_gy ?_ | refine So_gn ?_ | refine So_gu ?_ | refine So_gTn (fun hg => ?_) (fun hg => ?_) | refine So_gFn (fun hg => ?_) (fun hg => ?_) | refine So_gT (fun hg => ?_) (fun hg => ?_) | refine So_gF (fun hg => ?_) (fun hg => ?_) | refine So_gTm (fun hg => ?_) (fun hg => ?_) | refine So_gFm (fun hg => ?_) (fun hg => ?_) | refine So_gTb (fun hg => ?_) (fun hg => ?_) | refine So_gFb (fun hg => ?_) (fun hg => ?_)) | (refine q_mv ?_; first | refine So_mc ?_ | refine So_ma ?_ | refine So_mv ?_) | (refine q_as ?_; first | refine So_ac ?_ | refine So_aa ?_ | refine So_av ?_) | (refine q_ld ?_; first | refine So_lb ?_ | refine So_la ?_ | refine So_lp ?_ | refine So_lpa ?_ | refine So_lx ?_ | refine So_lxa ?_ | refine So_lxO ?_ | refine So_lxaO ?_ | refine So_ln (fun x hx => ?_) | refine So_lna (fun x hx => ?_) | refine So_lnO (fun x hx => ?_) | refine So_lnaO (fun x hx => ?_)) | (refine q_fa ?_; first | refine So_fa ?_ | refine So_fe ?_) | (refine q_ia ?_; first | refine So_ia ?_ | refine So_iaO ?_) | (refine q_cl ?_; first | refine So_fn (tyres_cv _ _ hc hcl hl hll) ?_) | (refine q_bin ?_; first | refine So_lss ?_ | refine So_leq ?_ | refine So_gtr ?_ | refine So_geq ?_ | refine So_eql ?_ | refine So_neq ?_ | refine So_add ?_ | refine So_sub ?_ | refine So_mul ?_ | refine So_quo ?_ | refine So_rem ?_ | refine So_eqb ?_ | refine So_neb ?_) | (refine q_pk ?_; first | refine So_pt ?_ | refine So_pf ?_ | refine So_pb ?_) | (refine q_un ?_; first | refine So_notd ?_ | refine So_not ?_) | (refine q_len ?_; first | refine So_len ?_ | refine So_len0 ?_ | refine So_lenO ?_) | (refine q_st ?_; first | refine So_st (fun Hb hsb => ?_) | refine So_stO (fun Hb hsb => ?_)) | (refine q_ex ?_; first | refine So_ex ?_) | (refine q_sl ?_; first | refine So_slh ?_ | refine So_sll ?_) | (refine q_f ?_; first | refine So_f ?_ | refine So_ff ?_) | (refine q_bi ?_; first | refine So_min ?_ | refine So_max ?_) | (refine q_rt ?_; first | refine Rt1 ?_ | refine Rt2 ?_ | refine Rt3 ?_ | refine Ro1 ?_ | refine Ro2 ?_ | refine Ro3 ?_) | refine So_box (fun kb Hb hsb => ?_) | refine So_alloc (fun kb Hb hsb => ?_) | refine So_mf ?_)
  all_goals first | rfl | contradiction
theorem PossS_none {cs : List Compound} {ls : List (List Stretch)} {al : Int} {sets comps : List Int} (h : chain (compAt cs comps) ls sets (fun _ => 0) = none) : PossS cs ls al sets comps = none := by
  by_cases hp : Pre cs ls al sets comps
  · rw [PossS_chain hp, h]
  · unfold PossS; rw [if_neg hp]
theorem set_fun {w : List Int} {k : Nat} {v : Int} (hk : k < w.length) : (fun t => (((w.set k v)[t]?).getD 0)) = fun t => if t = k then v else ((w[t]?).getD 0) := by
  funext t
  by_cases h : t = k
  · subst h
    rw [if_pos rfl, List.getElem?_set_self hk]
    rfl
  · rw [if_neg h, List.getElem?_set_ne (fun e => h e.symm)]

theorem rPossible_cv {cs : List Compound} {ls : List (List Stretch)} {a b : Cell} {sets comps : List Int} (al x : Int) (H : AH) (ha : Sl H 1 a (sets.map intC)) (hb : Sl H 1 b (comps.map intC)) (hla : sets.length ≤ 9223372036854775807) (hlb : comps.length ≤ 9223372036854775807) (ht : TaskOk cs ls al) :
    Cv Try.prog 41 [.one (.lst 4 (cs.map Compound.cells)), .one (.lst 1 (ls.map loopC)), vint al, .agg [a, b, cint x]] H (Cl (· = optAV (PossS cs ls al sets comps))) := by
  obtain ⟨t1, t2, t3, t4, t5, t6, t7⟩ := ht
  refine Cv_of Try.func41 rfl rfl rfl (fun H1 hs => ?_)
  repeat' (first | (refine q_ev ?_; first | refine Ev_seq.2 ?_ | refine Ev_block.2 ?_ | refine Ev_rp ?_ | refine Ev_rs ?_ | refine Ev_rt ?_ | refine Ev_skip.2 ?_ | refine Ev_ret.2 ?_ | refine Ev_exit.2 ?_ | refine Ev_ct ?_ | refine Ev_cf ?_ | refine Ev_cn (fun hg => ?_) (fun hg => ?_) | refine Ev_cd (fun hg => ?_) (fun hg => ?_) | refine Ev_cm (fun hg => ?_) (fun hg => ?_) | refine Ev_cs (fun hg => ?_) (fun hg => ?_)) | (refine q_nt ?_; first | refine So_nilR ?_) | (refine q_nil ?_; first | refine So_nil ?_) | (refine q_g ?_; first | refine So_gy ?_ | refine So_gn ?_ | refine So_gu ?_ | refine So_gTn (fun hg => ?_) (fun hg => ?_) | refine So_gFn (fun hg => ?_) (fun hg => ?_) | refine So_gT (fun hg => ?_) (fun hg => ?_) | refine So_gF (fun hg => ?_) (fun hg => ?_) | refine So_gTm (fun hg => ?_) (fun hg => ?_) | refine So_gFm (fun hg => ?_) (fun hg => ?_) | refine So_gTb (fun hg => ?_) (fun hg => ?_) | refine So_gFb (fun hg => ?_) (fun hg => ?_)) | (refine q_mv ?_; first | refine So_mc ?_ | refine So_ma ?_ | refine So_mv ?_) | (refine q_as ?_; first | refine So_ac ?_ | refine So_aa ?_ | refine So_av ?_) | (refine q_ld ?_; first | refine So_lb ?_ | refine So_la ?_ | refine So_lp ?_ | refine So_lpa ?_ | refine So_lx ?_ | refine So_lxa ?_ | refine So_lxO ?_ | refine So_lxaO ?_ | refine So_ln (fun x hx => ?_) | refine So_lna (fun x hx => ?_) | refine So_lnO (fun x hx => ?_) | refine So_lnaO (fun x hx => ?_)) | (refine q_fa ?_; first | refine So_fa ?_ | refine So_fe ?_) | (refine q_ia ?_; first | refine So_ia ?_ | refine So_iaO ?_) | (refine q_bin ?_; first | refine So_lss ?_ | refine So_leq ?_ | refine So_gtr ?_ | refine So_geq ?_ | refine So_eql ?_ | refine So_neq ?_ | refine So_add ?_ | refine So_sub ?_ | refine So_mul ?_ | refine So_quo ?_ | refine So_rem ?_ | refine So_eqb ?_ | refine So_neb ?_) | (refine q_pk ?_; first | refine So_pt ?_ | refine So_pf ?_ | refine So_pb ?_) | (refine q_un ?_; first | refine So_notd ?_ | refine So_not ?_) | (refine q_len ?_; first | refine So_len ?_ | refine So_len0 ?_ | refine So_lenO ?_) | (refine q_st ?_; first | refine So_st (fun Hb hsb => ?_) | refine So_stO (fun Hb hsb => ?_)) | (refine q_ex ?_; first | refine So_ex ?_) | (refine q_sl ?_; first | refine So_slh ?_ | refine So_sll ?_) | (refine q_f ?_; first | refine So_f ?_ | refine So_ff ?_) | (refine q_bi ?_; first | refine So_min ?_ | refine So_max ?_) | (refine q_rt ?_; first | refine Rt1 ?_ | refine Rt2 ?_ | refine Rt3 ?_ | refine Ro1 ?_ | refine Ro2 ?_ | refine Ro3 ?_) | refine So_box (fun kb Hb hsb => ?_) | refine So_alloc (fun kb Hb hsb => ?_) | refine So_mf ?_)
  · unfold PossS; rw [if_neg (fun h => by have := h.1; omega)]; rfl
  · unfold PossS; rw [if_neg (fun h => by have := h.2.1; omega)]; rfl
  rename_i g1
  have hlen : sets.length = ls.length := by omega
  refine Ev_for comps.length (fun i e h => ∃ pk, e 0 = .one (.lst 4 (cs.map Compound.cells)) ∧ e 1 = .one (.lst 1 (ls.map loopC)) ∧ e 7 = .one (.bp pk 0) ∧ e 10 = vint i ∧ Hs H h [(pk, .box [a, b, cint x])] ∧ ∀ (j : Nat) k, j < i → comps[j]? = some k → 0 ≤ k ∧ k < cs.length) ?_ ⟨_, rfl, rfl, rfl, rfl, by assumption, fun j k hj => by omega⟩
  rintro i e h hi ⟨pk, e1, e2, e3, e4, hs, hr⟩
  obtain ⟨e0, rfl⟩ := form4 e1 e2 e3 e4
  clear e1 e2 e3 e4
  repeat' (first | refine So_ms (f := intC) (e0 := 0) (fun kb Hb hsb => ?_) | (refine q_ev ?_; first | refine Ev_seq.2 ?_ | refine Ev_block.2 ?_ | refine Ev_rp ?_ | refine Ev_rs ?_ | refine Ev_rt ?_ | refine Ev_skip.2 ?_ | refine Ev_ret.2 ?_ | refine Ev_exit.2 ?_ | refine Ev_ct ?_ | refine Ev_cf ?_ | refine Ev_cn (fun hg => ?_) (fun hg => ?_) | refine Ev_cd (fun hg => ?_) (fun hg => ?_) | refine Ev_cm (fun hg => ?_) (fun hg => ?_) | refine Ev_cs (fun hg => ?_) (fun hg => ?_)) | (refine q_nt ?_; first | refine So_nilR ?_) | (refine q_nil ?_; first | refine So_nil ?_) | (refine q_g ?_; first | refine So_gy ?_ | refine So_gn ?_ | refine So_gu ?_ | refine So_gTn (fun hg => ?_) (fun hg => ?_) | refine So_gFn (fun hg => ?_) (fun hg => ?_) | refine So_gT (fun hg => ?_) (fun hg => ?_) | refine So_gF (fun hg => ?_) (fun hg => ?_) | refine So_gTm (fun hg => ?_) (fun hg => ?_) | refine So_gFm (fun hg => ?_) (fun hg => ?_) | refine So_gTb (fun hg => ?_) (fun hg => ?_) | refine So_gFb (fun hg => ?_) (fun hg => ?_)) | (refine q_mv ?_; first | refine So_mc ?_ | refine So_ma ?_ | refine So_mv ?_) | (refine q_as ?_; first | refine So_ac ?_ | refine So_aa ?_ | refine So_av ?_) | (refine q_ld ?_; first | refine So_lb ?_ | refine So_la ?_ | refine So_lp ?_ | refine So_lpa ?_ | refine So_lx ?_ | refine So_lxa ?_ | refine So_lxO ?_ | refine So_lxaO ?_ | refine So_ln (ll := comps) (fun k hk => ?_) | refine So_ln (fun x hx => ?_) | refine So_lna (fun x hx => ?_) | refine So_lnO (fun x hx => ?_) | refine So_lnaO (fun x hx => ?_)) | (refine q_fa ?_; first | refine So_fa ?_ | refine So_fe ?_) | (refine q_ia ?_; first | refine So_ia ?_ | refine So_iaO ?_) | (refine q_cl ?_; first | refine So_fn (in_cv _ _ _ _) ?_) | (refine q_bin ?_; first | refine So_lss ?_ | refine So_leq ?_ | refine So_gtr ?_ | refine So_geq ?_ | refine So_eql ?_ | refine So_neq ?_ | refine So_add ?_ | refine So_sub ?_ | refine So_mul ?_ | refine So_quo ?_ | refine So_rem ?_ | refine So_eqb ?_ | refine So_neb ?_) | (refine q_pk ?_; first | refine So_pt ?_ | refine So_pf ?_ | refine So_pb ?_) | (refine q_un ?_; first | refine So_notd ?_ | refine So_not ?_) | (refine q_len ?_; first | refine So_len ?_ | refine So_len0 ?_ | refine So_lenO ?_) | (refine q_st ?_; first | refine So_st (fun Hb hsb => ?_) | refine So_stO (fun Hb hsb => ?_)) | (refine q_ex ?_; first | refine So_ex ?_) | (refine q_sl ?_; first | refine So_slh ?_ | refine So_sll ?_) | (refine q_f ?_; first | refine So_f ?_ | refine So_ff ?_) | (refine q_bi ?_; first | refine So_min ?_ | refine So_max ?_) | (refine q_rt ?_; first | refine Rt1 ?_ | refine Rt2 ?_ | refine Rt3 ?_ | refine Ro1 ?_ | refine Ro2 ?_ | refine Ro3 ?_) | refine So_box (fun kb Hb hsb => ?_) | refine So_alloc (fun kb Hb hsb => ?_) | refine So_mf ?_)
  · unfold PossS; rw [if_neg (fun h => hg (by have := h.2.2.2 k (List.mem_of_getElem? hk); omega))]; rfl
  · exact ⟨by omega, pk, rfl, rfl, rfl, vint_s, hs, fun j' k' hj' hk' => by
      by_cases hji : j' = i
      · rw [hji] at hk'
        obtain rfl := uniq hk hk'
        omega
      · exact hr j' k' (by omega) hk'⟩
  · have hr' : ∀ (j : Nat) k, comps[j]? = some k → 0 ≤ k ∧ k < cs.length := fun j k hk => hr j k (by have := at_lt hk; omega) hk
    refine Ev_for ls.length (fun i e h => ∃ pk kw u x' w, e 0 = .one (.lst 4 (cs.map Compound.cells)) ∧ e 1 = .one (.lst 1 (ls.map loopC)) ∧ e 7 = .one (.bp pk 0) ∧ e 11 = vint u ∧ e 12 = vint x' ∧ e 13 = .one (.sl kw comps.length 0 comps.length) ∧ e 14 = vint i ∧ Hs H h [(kw, .arr 1 (w.map intC)), (pk, .box [a, b, cint x])] ∧ w.length = comps.length ∧ 0 ≤ u ∧ u ≤ i ∧ 0 ≤ x' ∧ x' ≤ i * 3000000 ∧ (∀ v ∈ w, 0 ≤ v ∧ v ≤ 1000000) ∧
      scan sets 0 = scan (sets.drop i) u ∧ chain (compAt cs comps) ls sets (fun _ => 0) = (chain (compAt cs comps) (ls.drop i) (sets.drop i) (fun t => (w[t]?).getD 0)).map (x' + ·)) ?_
      ⟨pk, _, 0, 0, List.replicate comps.length 0, rfl, rfl, rfl, rfl, rfl, rfl, rfl, hsb, by simp, by omega, by omega, by omega, by omega, fun v hv => by rw [(List.mem_replicate.1 hv).2]; omega, rfl, ?_⟩
    · clear hsb hs hr
      rintro i e h hi ⟨pk, kw, u, x', w, e1, e2, e3, e4, e5, e6, e7, hs, hw, u1, u2, x1, x2, hwb, hsc, hch⟩
      obtain ⟨e0, rfl⟩ := form7 e1 e2 e3 e4 e5 e6 e7
      clear e1 e2 e3 e4 e5 e6 e7
      by_cases hil : i < ls.length
      · obtain ⟨l, hl⟩ : ∃ l, ls[i]? = some l := ⟨_, List.getElem?_eq_getElem hil⟩
        obtain ⟨s, hss⟩ : ∃ s, sets[i]? = some s := ⟨_, List.getElem?_eq_getElem (by omega)⟩
        have hlo := t7 l (List.mem_of_getElem? hl)
        rw [drop_at hss, scan] at hsc
        rw [drop_at hss, drop_at hl, chain] at hch
        by_cases hsr : 0 ≤ s ∧ s ≤ u ∧ s < comps.length
        · obtain ⟨s1, s2, s3⟩ := hsr
          obtain ⟨sn, rfl⟩ := Int.eq_ofNat_of_zero_le s1
          obtain ⟨k, hk⟩ : ∃ k, comps[sn]? = some k := ⟨_, List.getElem?_eq_getElem (by omega)⟩
          obtain ⟨k1, k2⟩ := hr' _ _ hk
          obtain ⟨kn, rfl⟩ := Int.eq_ofNat_of_zero_le k1
          obtain ⟨c, hcc⟩ : ∃ c, cs[kn]? = some c := ⟨_, List.getElem?_eq_getElem (by omega)⟩
          have hca : compAt cs comps sn = c := by simp [compAt, hk, hcc]
          have hco := t6 c (List.mem_of_getElem? hcc)
          obtain ⟨v, hv⟩ : ∃ v, w[sn]? = some v := ⟨_, List.getElem?_eq_getElem (by omega)⟩
          have hvb := hwb v (List.mem_of_getElem? hv)
          have hlo' : LoopOk l c.dry.length := by rw [hco.2]; exact hlo
          have hbd := driven_bounds hco.1 hlo'.2 hvb
          have hl30 := hlo'.1
          have hus := useS_nonneg hco.1 hlo'.2
          have hul := useS_le hco.1 hlo'.2
          have hlast : (drivenS c l 0 v true).2.2 = decide (v + useS c l ≤ 1000000) := by
            rw [driven_lasts hco.1 hlo'.2]
            refine decide_eq_decide.2 ⟨fun h => ?_, .inl⟩
            rcases h with h | h
            · exact h
            · rw [h]; simp [useS]; omega
          simp only [Int.toNat_natCast, hca, hv, Option.getD_some] at hch
          repeat' (first | (refine q_ev ?_; first | refine Ev_seq.2 ?_ | refine Ev_block.2 ?_ | refine Ev_rp ?_ | refine Ev_rs ?_ | refine Ev_rt ?_ | refine Ev_skip.2 ?_ | refine Ev_ret.2 ?_ | refine Ev_exit.2 ?_ | refine Ev_ct ?_ | refine Ev_cf ?_ | refine Ev_cn (fun hg => ?_) (fun hg => ?_) | refine Ev_cd (fun hg => ?_) (fun hg => ?_) | refine Ev_cm (fun hg => ?_) (fun hg => ?_) | refine Ev_cs (fun hg => ?_) (fun hg => ?_)) | (refine q_nt ?_; first | refine So_nilR ?_) | (refine q_nil ?_; first | refine So_nil ?_) | (refine q_g ?_; first | refine So_gy ?_ | refine So_gn ?_ | refine So_gu ?_ | refine So_gTn (fun hg => ?_) (fun hg => ?_) | refine So_gFn (fun hg => ?_) (fun hg => ?_) | refine So_gT (fun hg => ?_) (fun hg => ?_) | refine So_gF (fun hg => ?_) (fun hg => ?_) | refine So_gTm (fun hg => ?_) (fun hg => ?_) | refine So_gFm (fun hg => ?_) (fun hg => ?_) | refine So_gTb (fun hg => ?_) (fun hg => ?_) | refine So_gFb (fun hg => ?_) (fun hg => ?_)) | (refine q_mv ?_; first | refine So_mc ?_ | refine So_ma ?_ | refine So_mv ?_) | (refine q_as ?_; first | refine So_ac ?_ | refine So_aa ?_ | refine So_av ?_) | (refine q_ld ?_; first | refine So_lb ?_ | refine So_la ?_ | refine So_lp ?_ | refine So_lpa ?_ | refine So_lx ?_ | refine So_lxa ?_ | refine So_lxO ?_ | refine So_lxaO ?_ | refine So_ln (fun x hx => ?_) | refine So_lna (fun x hx => ?_) | refine So_lnO (fun x hx => ?_) | refine So_lnaO (fun x hx => ?_)) | (refine q_fa ?_; first | refine So_fa ?_ | refine So_fe ?_) | (refine q_ia ?_; first | refine So_ia ?_ | refine So_iaO ?_) | (refine q_cl ?_; first | refine So_fn (Use_cv _ hco.1 .lst hlo') ?_ | refine So_fn (rLoss_cv _ _ hco.1 .lst hlo' hvb) ?_) | (refine q_bin ?_; first | refine So_lss ?_ | refine So_leq ?_ | refine So_gtr ?_ | refine So_geq ?_ | refine So_eql ?_ | refine So_neq ?_ | refine So_add ?_ | refine So_sub ?_ | refine So_mul ?_ | refine So_quo ?_ | refine So_rem ?_ | refine So_eqb ?_ | refine So_neb ?_) | (refine q_pk ?_; first | refine So_pt ?_ | refine So_pf ?_ | refine So_pb ?_) | (refine q_un ?_; first | refine So_notd ?_ | refine So_not ?_) | (refine q_len ?_; first | refine So_len ?_ | refine So_len0 ?_ | refine So_lenO ?_) | (refine q_st ?_; first | refine So_st (fun Hb hsb => ?_) | refine So_stO (fun Hb hsb => ?_)) | (refine q_ex ?_; first | refine So_ex ?_) | (refine q_sl ?_; first | refine So_slh ?_ | refine So_sll ?_) | (refine q_f ?_; first | refine So_f ?_ | refine So_ff ?_) | (refine q_bi ?_; first | refine So_min ?_ | refine So_max ?_) | (refine q_rt ?_; first | refine Rt1 ?_ | refine Rt2 ?_ | refine Rt3 ?_ | refine Ro1 ?_ | refine Ro2 ?_ | refine Ro3 ?_) | refine So_box (fun kb Hb hsb => ?_) | refine So_alloc (fun kb Hb hsb => ?_) | refine So_mf ?_)
          all_goals first | (exfalso; omega) | skip
          · rw [PossS_none (by rw [hch, if_neg (by rw [hlast, decide_eq_true_eq]; omega)]; rfl)]; rfl
          · refine ⟨by omega, pk, kw, _, _, w.set sn (drivenS c l 0 v true).2.1, rfl, rfl, rfl, rfl, rfl, rfl, vint_s, hsb.sub (.cons _ (.refl _)), by rw [List.length_set]; exact hw, by omega, by omega, by omega, by push_cast; omega, fun v' hv' => ?_, ?_, ?_⟩
            · rcases List.mem_or_eq_of_mem_set hv' with h | h
              · exact hwb v' h
              · rw [h]; exact hbd.1
            · rw [hsc, if_pos ⟨s1, s2⟩]; congr 1; omega
            · rw [hch, if_pos (by rw [hlast, decide_eq_true_eq]; omega), set_fun (by omega), Option.map_map]; congr 1; funext y; simp only [Function.comp]; omega
          · rw [PossS_none (by rw [hch, if_neg (by rw [hlast, decide_eq_true_eq]; omega)]; rfl)]; rfl
          · refine ⟨by omega, pk, kw, _, _, w.set sn (drivenS c l 0 v true).2.1, rfl, rfl, rfl, rfl, rfl, rfl, vint_s, hsb.sub (.cons _ (.refl _)), by rw [List.length_set]; exact hw, by omega, by omega, by omega, by push_cast; omega, fun v' hv' => ?_, ?_, ?_⟩
            · rcases List.mem_or_eq_of_mem_set hv' with h | h
              · exact hwb v' h
              · rw [h]; exact hbd.1
            · rw [hsc, if_pos ⟨s1, s2⟩]; congr 1; omega
            · rw [hch, if_pos (by rw [hlast, decide_eq_true_eq]; omega), set_fun (by omega), Option.map_map]; congr 1; funext y; simp only [Function.comp]; omega
        · have hpre : ¬Pre cs ls al sets comps := fun h => by
            have h1 := (scan_le h.2.2.1).2 s (List.mem_of_getElem? hss)
            have h2 := h.2.2.1
            rw [hsc] at h2
            split at h2
            · exact hsr (by omega)
            · cases h2
          repeat' (first | (refine q_ev ?_; first | refine Ev_seq.2 ?_ | refine Ev_block.2 ?_ | refine Ev_rp ?_ | refine Ev_rs ?_ | refine Ev_rt ?_ | refine Ev_skip.2 ?_ | refine Ev_ret.2 ?_ | refine Ev_exit.2 ?_ | refine Ev_ct ?_ | refine Ev_cf ?_ | refine Ev_cn (fun hg => ?_) (fun hg => ?_) | refine Ev_cd (fun hg => ?_) (fun hg => ?_) | refine Ev_cm (fun hg => ?_) (fun hg => ?_) | refine Ev_cs (fun hg => ?_) (fun hg => ?_)) | (refine q_nt ?_; first | refine So_nilR ?_) | (refine q_nil ?_; first | refine So_nil ?_) | (refine q_g ?_; first | refine So_gy ?_ | refine So_gn ?_ | refine So_gu ?_ | refine So_gTn (fun hg => ?_) (fun hg => ?_) | refine So_gFn (fun hg => ?_) (fun hg => ?_) | refine So_gT (fun hg => ?_) (fun hg => ?_) | refine So_gF (fun hg => ?_) (fun hg => ?_) | refine So_gTm (fun hg => ?_) (fun hg => ?_) | refine So_gFm (fun hg => ?_) (fun hg => ?_) | refine So_gTb (fun hg => ?_) (fun hg => ?_) | refine So_gFb (fun hg => ?_) (fun hg => ?_)) | (refine q_mv ?_; first | refine So_mc ?_ | refine So_ma ?_ | refine So_mv ?_) | (refine q_as ?_; first | refine So_ac ?_ | refine So_aa ?_ | refine So_av ?_) | (refine q_ld ?_; first | refine So_lb ?_ | refine So_la ?_ | refine So_lp ?_ | refine So_lpa ?_ | refine So_lx ?_ | refine So_lxa ?_ | refine So_lxO ?_ | refine So_lxaO ?_ | refine So_ln (fun x hx => ?_) | refine So_lna (fun x hx => ?_) | refine So_lnO (fun x hx => ?_) | refine So_lnaO (fun x hx => ?_)) | (refine q_fa ?_; first | refine So_fa ?_ | refine So_fe ?_) | (refine q_ia ?_; first | refine So_ia ?_ | refine So_iaO ?_) | (refine q_bin ?_; first | refine So_lss ?_ | refine So_leq ?_ | refine So_gtr ?_ | refine So_geq ?_ | refine So_eql ?_ | refine So_neq ?_ | refine So_add ?_ | refine So_sub ?_ | refine So_mul ?_ | refine So_quo ?_ | refine So_rem ?_ | refine So_eqb ?_ | refine So_neb ?_) | (refine q_pk ?_; first | refine So_pt ?_ | refine So_pf ?_ | refine So_pb ?_) | (refine q_un ?_; first | refine So_notd ?_ | refine So_not ?_) | (refine q_len ?_; first | refine So_len ?_ | refine So_len0 ?_ | refine So_lenO ?_) | (refine q_st ?_; first | refine So_st (fun Hb hsb => ?_) | refine So_stO (fun Hb hsb => ?_)) | (refine q_ex ?_; first | refine So_ex ?_) | (refine q_sl ?_; first | refine So_slh ?_ | refine So_sll ?_) | (refine q_f ?_; first | refine So_f ?_ | refine So_ff ?_) | (refine q_bi ?_; first | refine So_min ?_ | refine So_max ?_) | (refine q_rt ?_; first | refine Rt1 ?_ | refine Rt2 ?_ | refine Rt3 ?_ | refine Ro1 ?_ | refine Ro2 ?_ | refine Ro3 ?_) | refine So_box (fun kb Hb hsb => ?_) | refine So_alloc (fun kb Hb hsb => ?_) | refine So_mf ?_)
          all_goals first | (exfalso; omega) | (unfold PossS; rw [if_neg hpre]; rfl)
      · have hsc' : scan sets 0 = some u := by rw [hsc, List.drop_of_length_le (by omega)]; rfl
        have hch' : chain (compAt cs comps) ls sets (fun _ => 0) = some x' := by
          rw [hch, List.drop_of_length_le (show ls.length ≤ i by omega)]
          simp [chain]
        repeat' (first | (refine q_ev ?_; first | refine Ev_seq.2 ?_ | refine Ev_block.2 ?_ | refine Ev_rp ?_ | refine Ev_rs ?_ | refine Ev_rt ?_ | refine Ev_skip.2 ?_ | refine Ev_ret.2 ?_ | refine Ev_exit.2 ?_ | refine Ev_ct ?_ | refine Ev_cf ?_ | refine Ev_cn (fun hg => ?_) (fun hg => ?_) | refine Ev_cd (fun hg => ?_) (fun hg => ?_) | refine Ev_cm (fun hg => ?_) (fun hg => ?_) | refine Ev_cs (fun hg => ?_) (fun hg => ?_)) | (refine q_nt ?_; first | refine So_nilR ?_) | (refine q_nil ?_; first | refine So_nil ?_) | (refine q_g ?_; first | refine So_gy ?_ | refine So_gn ?_ | refine So_gu ?_ | refine So_gTn (fun hg => ?_) (fun hg => ?_) | refine So_gFn (fun hg => ?_) (fun hg => ?_) | refine So_gT (fun hg => ?_) (fun hg => ?_) | refine So_gF (fun hg => ?_) (fun hg => ?_) | refine So_gTm (fun hg => ?_) (fun hg => ?_) | refine So_gFm (fun hg => ?_) (fun hg => ?_) | refine So_gTb (fun hg => ?_) (fun hg => ?_) | refine So_gFb (fun hg => ?_) (fun hg => ?_)) | (refine q_mv ?_; first | refine So_mc ?_ | refine So_ma ?_ | refine So_mv ?_) | (refine q_as ?_; first | refine So_ac ?_ | refine So_aa ?_ | refine So_av ?_) | (refine q_ld ?_; first | refine So_lb ?_ | refine So_la ?_ | refine So_lp ?_ | refine So_lpa ?_ | refine So_lx ?_ | refine So_lxa ?_ | refine So_lxO ?_ | refine So_lxaO ?_ | refine So_ln (fun x hx => ?_) | refine So_lna (fun x hx => ?_) | refine So_lnO (fun x hx => ?_) | refine So_lnaO (fun x hx => ?_)) | (refine q_fa ?_; first | refine So_fa ?_ | refine So_fe ?_) | (refine q_ia ?_; first | refine So_ia ?_ | refine So_iaO ?_) | (refine q_bin ?_; first | refine So_lss ?_ | refine So_leq ?_ | refine So_gtr ?_ | refine So_geq ?_ | refine So_eql ?_ | refine So_neq ?_ | refine So_add ?_ | refine So_sub ?_ | refine So_mul ?_ | refine So_quo ?_ | refine So_rem ?_ | refine So_eqb ?_ | refine So_neb ?_) | (refine q_pk ?_; first | refine So_pt ?_ | refine So_pf ?_ | refine So_pb ?_) | (refine q_un ?_; first | refine So_notd ?_ | refine So_not ?_) | (refine q_len ?_; first | refine So_len ?_ | refine So_len0 ?_ | refine So_lenO ?_) | (refine q_st ?_; first | refine So_st (fun Hb hsb => ?_) | refine So_stO (fun Hb hsb => ?_)) | (refine q_ex ?_; first | refine So_ex ?_) | (refine q_sl ?_; first | refine So_slh ?_ | refine So_sll ?_) | (refine q_f ?_; first | refine So_f ?_ | refine So_ff ?_) | (refine q_bi ?_; first | refine So_min ?_ | refine So_max ?_) | (refine q_rt ?_; first | refine Rt1 ?_ | refine Rt2 ?_ | refine Rt3 ?_ | refine Ro1 ?_ | refine Ro2 ?_ | refine Ro3 ?_) | refine So_box (fun kb Hb hsb => ?_) | refine So_alloc (fun kb Hb hsb => ?_) | refine So_mf ?_)
        all_goals first | (exfalso; omega) | skip
        · unfold PossS; rw [if_neg (fun h => by have := h.2.2.1; rw [hsc'] at this; injection this with this; omega)]; rfl
        · rw [PossS_chain ⟨by omega, hlen, by rw [hsc', hg], all_of_at hr'⟩, hch']
          rfl
    · have hz : (fun t : Nat => ((List.replicate comps.length (0 : Int))[t]?).getD 0) = fun _ => (0 : Int) := by
        funext t
        simp only [List.getElem?_replicate]
        split <;> rfl
      show chain (compAt cs comps) ls sets (fun _ => 0) = Option.map (fun x => 0 + x) (chain (compAt cs comps) ls sets (fun t : Nat => ((List.replicate comps.length (0 : Int))[t]?).getD 0))
      rw [hz]
      cases chain (compAt cs comps) ls sets fun _ => 0 <;> simp
end Go.AM.Car
