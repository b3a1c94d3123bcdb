/- What a loop costs. -/
import Derived.Test.YthcdhdgpokikfaaAcShort
import Derived.Test.YthcdhdgpokikfaaAcLoop
open Go.Proofs
namespace Go.AM.Car
set_option maxRecDepth 10000
set_option maxHeartbeats 4000000

def wearAt (c : Compound) (s : Stretch) : Int := (c.wear[s.surface.toNat]?).getD 0
def lossOf (c : Compound) (s : Stretch) (wear : Int) : Int := (s.meters * (1000 - gripS c s.surface s.degrees s.wet wear)).tdiv 1000
def drivenS (c : Compound) : List Stretch → Int → Int → Bool → Int × Int × Bool
  | [], loss, wear, lasts => (loss, wear, lasts)
  | s :: l, loss, wear, lasts => if 1000000 < wear + s.meters * wearAt c s then drivenS c l (loss + lossOf c s wear) 1000000 false else drivenS c l (loss + lossOf c s wear) (wear + s.meters * wearAt c s) lasts
def useS (c : Compound) : List Stretch → Int
  | [] => 0
  | s :: l => s.meters * wearAt c s + useS c l

theorem str_facts {c : Compound} (hc : CompOk c) {x : Stretch} (hx : StrOk c.dry.length x) {wear : Int} (hw : 0 ≤ wear ∧ wear ≤ 1000000) :
    (0 ≤ gripS c x.surface x.degrees x.wet wear ∧ gripS c x.surface x.degrees x.wet wear ≤ 1000) ∧ fits (x.meters * (1000 - gripS c x.surface x.degrees x.wet wear)) ∧
    (-9223372036854775808 < x.meters * (1000 - gripS c x.surface x.degrees x.wet wear) ∧ x.meters * (1000 - gripS c x.surface x.degrees x.wet wear) < 9223372036854775808) ∧
    (0 ≤ (x.meters * (1000 - gripS c x.surface x.degrees x.wet wear)).tdiv 1000 ∧ (x.meters * (1000 - gripS c x.surface x.degrees x.wet wear)).tdiv 1000 ≤ 100000) ∧
    c.wear[x.surface.toNat]? = some (wearAt c x) ∧ (0 ≤ wearAt c x ∧ wearAt c x ≤ 1000) ∧ fits (x.meters * wearAt c x) ∧ 0 ≤ x.meters * wearAt c x ∧ x.meters * wearAt c x ≤ 100000000 := by
  obtain ⟨x1, x2, x3, x4, x5, x6⟩ := hx
  have hg := hc.grip (s := x.surface) (d := x.degrees) (wet := x.wet) ⟨x1, by omega⟩ hw
  have m1 : 0 ≤ x.meters * (1000 - gripS c x.surface x.degrees x.wet wear) := Int.mul_nonneg x3 (by omega)
  have m2 : x.meters * (1000 - gripS c x.surface x.degrees x.wet wear) ≤ 100000 * 1000 := Int.mul_le_mul x4 (by omega) (by omega) (by omega)
  have hlen := hc.2.2.2.2.1
  have hwx : c.wear[x.surface.toNat]? = some (wearAt c x) := by
    unfold wearAt
    rw [List.getElem?_eq_getElem (by omega)]; rfl
  have hwr := hc.2.2.2.2.2.1 _ (List.mem_of_getElem? hwx)
  have m3 : 0 ≤ x.meters * wearAt c x := Int.mul_nonneg x3 hwr.1
  have m4 : x.meters * wearAt c x ≤ 100000 * 1000 := Int.mul_le_mul x4 hwr.2 hwr.1 (by omega)
  refine ⟨hg, ⟨by omega, by omega⟩, ⟨by omega, by omega⟩, ?_, hwx, hwr, ⟨by omega, by omega⟩, m3, by omega⟩
  rw [Int.tdiv_eq_ediv_of_nonneg m1]
  omega

theorem driven_cv {c : Compound} {a : Cell} {l : List Stretch} (wear : Int) (H : AH) (hc : CompOk c) (ha : Sl H 4 a (l.map strC)) (hl : LoopOk l c.dry.length) (hw : 0 ≤ wear ∧ wear ≤ 1000000) :
    Cv Try.prog 70 [.agg c.cells, .one a, vint wear] H (Cl (· = .tup [vint (drivenS c l 0 wear true).1, vint (drivenS c l 0 wear true).2.1, vbool (drivenS c l 0 wear true).2.2])) := by
  have hl30 := hl.1
  have hwl := hc.2.2.2.2.1
  refine Cv_of Try.func70 rfl rfl rfl (fun H1 hs => ?_)
  repeat' (first | (refine q_ev ?_; first | refine Ev_seq.2 ?_ | refine Ev_block.2 ?_ | refine Ev_rp ?_ | refine Ev_rs ?_ | refine Ev_rt ?_ | refine Ev_skip.2 ?_ | refine Ev_ret.2 ?_ | refine Ev_exit.2 ?_ | refine Ev_ct ?_ | refine Ev_cf ?_ | refine Ev_cn (fun hg => ?_) (fun hg => ?_) | refine Ev_cd (fun hg => ?_) (fun hg => ?_) | refine Ev_cm (fun hg => ?_) (fun hg => ?_) | refine Ev_cs (fun hg => ?_) (fun hg => ?_)) | (refine q_nt ?_; first | refine So_nilR ?_) | (refine q_nil ?_; first | refine So_nil ?_) | (refine q_g ?_; first | refine So_gy ?_ | refine So_gn ?_ | refine So_gu ?_ | refine So_gTn (fun hg => ?_) (fun hg => ?_) | refine So_gFn (fun hg => ?_) (fun hg => ?_) | refine So_gT (fun hg => ?_) (fun hg => ?_) | refine So_gF (fun hg => ?_) (fun hg => ?_) | refine So_gTm (fun hg => ?_) (fun hg => ?_) | refine So_gFm (fun hg => ?_) (fun hg => ?_) | refine So_gTb (fun hg => ?_) (fun hg => ?_) | refine So_gFb (fun hg => ?_) (fun hg => ?_)) | (refine q_mv ?_; first | refine So_mc ?_ | refine So_ma ?_ | refine So_mv ?_) | (refine q_as ?_; first | refine So_ac ?_ | refine So_aa ?_ | refine So_av ?_) | (refine q_ld ?_; first | refine So_lb ?_ | refine So_la ?_ | refine So_lp ?_ | refine So_lpa ?_ | refine So_lx ?_ | refine So_lxa ?_ | refine So_ln (fun x hx => ?_) | refine So_lna (fun x hx => ?_)) | (refine q_fa ?_; first | refine So_fa ?_ | refine So_fe ?_) | (refine q_ia ?_; first | refine So_ia ?_) | (refine q_bin ?_; first | refine So_lss ?_ | refine So_leq ?_ | refine So_gtr ?_ | refine So_geq ?_ | refine So_eql ?_ | refine So_neq ?_ | refine So_add ?_ | refine So_sub ?_ | refine So_mul ?_ | refine So_quo ?_ | refine So_rem ?_ | refine So_eqb ?_ | refine So_neb ?_) | (refine q_pk ?_; first | refine So_pt ?_ | refine So_pf ?_ | refine So_pb ?_) | (refine q_un ?_; first | refine So_notd ?_ | refine So_not ?_) | (refine q_len ?_; first | refine So_len ?_ | refine So_len0 ?_) | (refine q_st ?_; first | refine So_st (fun Hb hsb => ?_)) | (refine q_ex ?_; first | refine So_ex ?_) | (refine q_f ?_; first | refine So_f ?_ | refine So_ff ?_) | (refine q_bi ?_; first | refine So_min ?_ | refine So_max ?_) | (refine q_rt ?_; first | refine Rt1 ?_ | refine Rt2 ?_ | refine Rt3 ?_) | refine So_box (fun kb Hb hsb => ?_) | refine So_alloc (fun kb Hb hsb => ?_) | refine So_mf ?_)
  refine Ev_for l.length (fun i e h => ∃ kb loss w b, e 2 = vint w ∧ e 3 = .one (.bp kb 0) ∧ e 9 = vint loss ∧ e 10 = vbool b ∧ e 13 = .one a ∧ e 14 = vint l.length ∧ e 15 = vint i ∧ Hs H h [(kb, .box c.cells)] ∧ 0 ≤ w ∧ w ≤ 1000000 ∧ 0 ≤ loss ∧ loss ≤ i * 100000 ∧ drivenS c l 0 wear true = drivenS c (l.drop i) loss w b) ?_ ⟨_, 0, wear, true, rfl, rfl, rfl, rfl, rfl, rfl, rfl, by assumption, by omega, by omega, by omega, by omega, rfl⟩
  rintro i e h hi ⟨ck, loss, w, b, e1, e2, e3, e4, e5, e6, e7, hs, w1, w2, l1, l2, hall⟩
  obtain ⟨e9, rfl⟩ := form7 e1 e2 e3 e4 e5 e6 e7
  clear e1 e2 e3 e4 e5 e6 e7
  repeat' (first | (refine q_ev ?_; first | refine Ev_seq.2 ?_ | refine Ev_block.2 ?_ | refine Ev_rp ?_ | refine Ev_rs ?_ | refine Ev_rt ?_ | refine Ev_skip.2 ?_ | refine Ev_ret.2 ?_ | refine Ev_exit.2 ?_ | refine Ev_ct ?_ | refine Ev_cf ?_ | refine Ev_cn (fun hg => ?_) (fun hg => ?_) | refine Ev_cd (fun hg => ?_) (fun hg => ?_) | refine Ev_cm (fun hg => ?_) (fun hg => ?_) | refine Ev_cs (fun hg => ?_) (fun hg => ?_)) | (refine q_nt ?_; first | refine So_nilR ?_) | (refine q_nil ?_; first | refine So_nil ?_) | (refine q_g ?_; first | refine So_gy ?_ | refine So_gn ?_ | refine So_gu ?_ | refine So_gTn (fun hg => ?_) (fun hg => ?_) | refine So_gFn (fun hg => ?_) (fun hg => ?_) | refine So_gT (fun hg => ?_) (fun hg => ?_) | refine So_gF (fun hg => ?_) (fun hg => ?_) | refine So_gTm (fun hg => ?_) (fun hg => ?_) | refine So_gFm (fun hg => ?_) (fun hg => ?_) | refine So_gTb (fun hg => ?_) (fun hg => ?_) | refine So_gFb (fun hg => ?_) (fun hg => ?_)) | (refine q_mv ?_; first | refine So_mc ?_ | refine So_ma ?_ | refine So_mv ?_) | (refine q_as ?_; first | refine So_ac ?_ | refine So_aa ?_ | refine So_av ?_) | (refine q_ld ?_; first | refine So_lb ?_ | refine So_la ?_ | refine So_lp ?_ | refine So_lpa ?_ | refine So_lx ?_ | refine So_lxa ?_ | (refine So_lna (ll := l) (fun x hx => ?_); have hx1 := hl.2 x (List.mem_of_getElem? hx); obtain ⟨y1, y2, y3, y4, y5, y6, y7, y8, y9⟩ := str_facts hc hx1 (wear := w) ⟨w1, w2⟩; obtain ⟨x1, x2, x3, x4, x5, x6⟩ := hx1) | refine So_ln (fun x hx => ?_) | refine So_lna (fun x hx => ?_)) | (refine q_fa ?_; first | refine So_fa ?_ | refine So_fe ?_) | (refine q_ia ?_; first | refine So_ia ?_) | (refine q_cl ?_; first | refine So_fn (grip_cv _ _ _ _ _ hc (by omega) (by omega) (by omega)) ?_) | (refine q_bin ?_; first | refine So_lss ?_ | refine So_leq ?_ | refine So_gtr ?_ | refine So_geq ?_ | refine So_eql ?_ | refine So_neq ?_ | refine So_add ?_ | refine So_sub ?_ | refine So_mul ?_ | refine So_quo ?_ | refine So_rem ?_ | refine So_eqb ?_ | refine So_neb ?_) | (refine q_pk ?_; first | refine So_pt ?_ | refine So_pf ?_ | refine So_pb ?_) | (refine q_un ?_; first | refine So_notd ?_ | refine So_not ?_) | (refine q_len ?_; first | refine So_len ?_ | refine So_len0 ?_) | (refine q_st ?_; first | refine So_st (fun Hb hsb => ?_)) | (refine q_ex ?_; first | refine So_ex ?_) | (refine q_f ?_; first | refine So_f ?_ | refine So_ff ?_) | (refine q_bi ?_; first | refine So_min ?_ | refine So_max ?_) | (refine q_rt ?_; first | refine Rt1 ?_ | refine Rt2 ?_ | refine Rt3 ?_) | refine So_box (fun kb Hb hsb => ?_) | refine So_alloc (fun kb Hb hsb => ?_) | refine So_mf ?_)
  · exact ⟨by omega, ck, _, _, false, rfl, rfl, rfl, rfl, rfl, rfl, vint_s, hsb.sub (.cons _ (.refl _)), by omega, by omega, by omega, by push_cast; omega, by rw [hall, drop_at hx, drivenS, if_pos hg]; rfl⟩
  · exact ⟨by omega, ck, _, _, b, rfl, rfl, rfl, rfl, rfl, rfl, vint_s, hsb.sub (.cons _ (.refl _)), by omega, by omega, by omega, by push_cast; omega, by rw [hall, drop_at hx, drivenS, if_neg hg]; rfl⟩
  · rw [hall, List.drop_of_length_le (by omega)]
    rfl

theorem rLoss_cv {c : Compound} {a : Cell} {l : List Stretch} (wear : Int) (H : AH) (hc : CompOk c) (ha : Sl H 4 a (l.map strC)) (hl : LoopOk l c.dry.length) (hw : 0 ≤ wear ∧ wear ≤ 1000000) :
    Cv Try.prog 38 [.agg c.cells, .one a, vint wear] H (Cl (· = .tup [vint (drivenS c l 0 wear true).1, vint (drivenS c l 0 wear true).2.1])) := by
  have hl30 := hl.1
  have hwl := hc.2.2.2.2.1
  refine Cv_of Try.func38 rfl rfl rfl (fun H1 hs => ?_)
  repeat' (first | (refine q_ev ?_; first | refine Ev_seq.2 ?_ | refine Ev_block.2 ?_ | refine Ev_rp ?_ | refine Ev_rs ?_ | refine Ev_rt ?_ | refine Ev_skip.2 ?_ | refine Ev_ret.2 ?_ | refine Ev_exit.2 ?_ | refine Ev_ct ?_ | refine Ev_cf ?_ | refine Ev_cn (fun hg => ?_) (fun hg => ?_) | refine Ev_cd (fun hg => ?_) (fun hg => ?_) | refine Ev_cm (fun hg => ?_) (fun hg => ?_) | refine Ev_cs (fun hg => ?_) (fun hg => ?_)) | (refine q_nt ?_; first | refine So_nilR ?_) | (refine q_nil ?_; first | refine So_nil ?_) | (refine q_g ?_; first | refine So_gy ?_ | refine So_gn ?_ | refine So_gu ?_ | refine So_gTn (fun hg => ?_) (fun hg => ?_) | refine So_gFn (fun hg => ?_) (fun hg => ?_) | refine So_gT (fun hg => ?_) (fun hg => ?_) | refine So_gF (fun hg => ?_) (fun hg => ?_) | refine So_gTm (fun hg => ?_) (fun hg => ?_) | refine So_gFm (fun hg => ?_) (fun hg => ?_) | refine So_gTb (fun hg => ?_) (fun hg => ?_) | refine So_gFb (fun hg => ?_) (fun hg => ?_)) | (refine q_mv ?_; first | refine So_mc ?_ | refine So_ma ?_ | refine So_mv ?_) | (refine q_as ?_; first | refine So_ac ?_ | refine So_aa ?_ | refine So_av ?_) | (refine q_ld ?_; first | refine So_lb ?_ | refine So_la ?_ | refine So_lp ?_ | refine So_lpa ?_ | refine So_lx ?_ | refine So_lxa ?_ | refine So_ln (fun x hx => ?_) | refine So_lna (fun x hx => ?_)) | (refine q_fa ?_; first | refine So_fa ?_ | refine So_fe ?_) | (refine q_ia ?_; first | refine So_ia ?_) | (refine q_bin ?_; first | refine So_lss ?_ | refine So_leq ?_ | refine So_gtr ?_ | refine So_geq ?_ | refine So_eql ?_ | refine So_neq ?_ | refine So_add ?_ | refine So_sub ?_ | refine So_mul ?_ | refine So_quo ?_ | refine So_rem ?_ | refine So_eqb ?_ | refine So_neb ?_) | (refine q_pk ?_; first | refine So_pt ?_ | refine So_pf ?_ | refine So_pb ?_) | (refine q_un ?_; first | refine So_notd ?_ | refine So_not ?_) | (refine q_len ?_; first | refine So_len ?_ | refine So_len0 ?_) | (refine q_st ?_; first | refine So_st (fun Hb hsb => ?_)) | (refine q_ex ?_; first | refine So_ex ?_) | (refine q_f ?_; first | refine So_f ?_ | refine So_ff ?_) | (refine q_bi ?_; first | refine So_min ?_ | refine So_max ?_) | (refine q_rt ?_; first | refine Rt1 ?_ | refine Rt2 ?_ | refine Rt3 ?_) | refine So_box (fun kb Hb hsb => ?_) | refine So_alloc (fun kb Hb hsb => ?_) | refine So_mf ?_)
  refine Ev_for l.length (fun i e h => ∃ kb loss w b, e 1 = .one a ∧ e 2 = vint w ∧ e 3 = .one (.bp kb 0) ∧ e 8 = vint loss ∧ e 9 = vint i ∧ Hs H h [(kb, .box c.cells)] ∧ 0 ≤ w ∧ w ≤ 1000000 ∧ 0 ≤ loss ∧ loss ≤ i * 100000 ∧ drivenS c l 0 wear true = drivenS c (l.drop i) loss w b) ?_ ⟨_, 0, wear, true, rfl, rfl, rfl, rfl, rfl, by assumption, by omega, by omega, by omega, by omega, rfl⟩
  rintro i e h hi ⟨ck, loss, w, b, e1, e2, e3, e4, e5, hs, w1, w2, l1, l2, hall⟩
  obtain ⟨e9, rfl⟩ := form5 e1 e2 e3 e4 e5
  clear e1 e2 e3 e4 e5
  repeat' (first | (refine q_ev ?_; first | refine Ev_seq.2 ?_ | refine Ev_block.2 ?_ | refine Ev_rp ?_ | refine Ev_rs ?_ | refine Ev_rt ?_ | refine Ev_skip.2 ?_ | refine Ev_ret.2 ?_ | refine Ev_exit.2 ?_ | refine Ev_ct ?_ | refine Ev_cf ?_ | refine Ev_cn (fun hg => ?_) (fun hg => ?_) | refine Ev_cd (fun hg => ?_) (fun hg => ?_) | refine Ev_cm (fun hg => ?_) (fun hg => ?_) | refine Ev_cs (fun hg => ?_) (fun hg => ?_)) | (refine q_nt ?_; first | refine So_nilR ?_) | (refine q_nil ?_; first | refine So_nil ?_) | (refine q_g ?_; first | refine So_gy ?_ | refine So_gn ?_ | refine So_gu ?_ | refine So_gTn (fun hg => ?_) (fun hg => ?_) | refine So_gFn (fun hg => ?_) (fun hg => ?_) | refine So_gT (fun hg => ?_) (fun hg => ?_) | refine So_gF (fun hg => ?_) (fun hg => ?_) | refine So_gTm (fun hg => ?_) (fun hg => ?_) | refine So_gFm (fun hg => ?_) (fun hg => ?_) | refine So_gTb (fun hg => ?_) (fun hg => ?_) | refine So_gFb (fun hg => ?_) (fun hg => ?_)) | (refine q_mv ?_; first | refine So_mc ?_ | refine So_ma ?_ | refine So_mv ?_) | (refine q_as ?_; first | refine So_ac ?_ | refine So_aa ?_ | refine So_av ?_) | (refine q_ld ?_; first | refine So_lb ?_ | refine So_la ?_ | refine So_lp ?_ | refine So_lpa ?_ | refine So_lx ?_ | refine So_lxa ?_ | (refine So_lna (ll := l) (fun x hx => ?_); have hx1 := hl.2 x (List.mem_of_getElem? hx); obtain ⟨y1, y2, y3, y4, y5, y6, y7, y8, y9⟩ := str_facts hc hx1 (wear := w) ⟨w1, w2⟩; obtain ⟨x1, x2, x3, x4, x5, x6⟩ := hx1) | refine So_ln (fun x hx => ?_) | refine So_lna (fun x hx => ?_)) | (refine q_fa ?_; first | refine So_fa ?_ | refine So_fe ?_) | (refine q_ia ?_; first | refine So_ia ?_) | (refine q_cl ?_; first | refine So_fn (rgrip_cv _ _ _ _ _ hc (by omega) (by omega) (by omega)) ?_) | (refine q_bin ?_; first | refine So_lss ?_ | refine So_leq ?_ | refine So_gtr ?_ | refine So_geq ?_ | refine So_eql ?_ | refine So_neq ?_ | refine So_add ?_ | refine So_sub ?_ | refine So_mul ?_ | refine So_quo ?_ | refine So_rem ?_ | refine So_eqb ?_ | refine So_neb ?_) | (refine q_pk ?_; first | refine So_pt ?_ | refine So_pf ?_ | refine So_pb ?_) | (refine q_un ?_; first | refine So_notd ?_ | refine So_not ?_) | (refine q_len ?_; first | refine So_len ?_ | refine So_len0 ?_) | (refine q_st ?_; first | refine So_st (fun Hb hsb => ?_)) | (refine q_ex ?_; first | refine So_ex ?_) | (refine q_f ?_; first | refine So_f ?_ | refine So_ff ?_) | (refine q_bi ?_; first | refine So_min ?_ | refine So_max ?_) | (refine q_rt ?_; first | refine Rt1 ?_ | refine Rt2 ?_ | refine Rt3 ?_) | refine So_box (fun kb Hb hsb => ?_) | refine So_alloc (fun kb Hb hsb => ?_) | refine So_mf ?_)
  · by_cases hg : 1000000 < w + x.meters * wearAt c x
    · exact ⟨by omega, ck, _, 1000000, false, rfl, congrArg vint (by omega), rfl, rfl, vint_s, hsb.sub (.cons _ (.refl _)), by omega, by omega, by omega, by push_cast; omega, by rw [hall, drop_at hx, drivenS, if_pos hg]; rfl⟩
    · exact ⟨by omega, ck, _, w + x.meters * wearAt c x, b, rfl, congrArg vint (by omega), rfl, rfl, vint_s, hsb.sub (.cons _ (.refl _)), by omega, by omega, by omega, by push_cast; omega, by rw [hall, drop_at hx, drivenS, if_neg hg]; rfl⟩
  · rw [hall, List.drop_of_length_le (by omega)]
    rfl

theorem Use_cv {c : Compound} {a : Cell} {l : List Stretch} (H : AH) (hc : CompOk c) (ha : Sl H 4 a (l.map strC)) (hl : LoopOk l c.dry.length) : Cv Try.prog 39 [.agg c.cells, .one a] H (Cl (· = vint (useS c l))) := by
  have hl30 := hl.1
  have hwl := hc.2.2.2.2.1
  refine Cv_of Try.func39 rfl rfl rfl (fun H1 hs => ?_)
  repeat' (first | (refine q_ev ?_; first | refine Ev_seq.2 ?_ | refine Ev_block.2 ?_ | refine Ev_rp ?_ | refine Ev_rs ?_ | refine Ev_rt ?_ | refine Ev_skip.2 ?_ | refine Ev_ret.2 ?_ | refine Ev_exit.2 ?_ | refine Ev_ct ?_ | refine Ev_cf ?_ | refine Ev_cn (fun hg => ?_) (fun hg => ?_) | refine Ev_cd (fun hg => ?_) (fun hg => ?_) | refine Ev_cm (fun hg => ?_) (fun hg => ?_) | refine Ev_cs (fun hg => ?_) (fun hg => ?_)) | (refine q_nt ?_; first | refine So_nilR ?_) | (refine q_nil ?_; first | refine So_nil ?_) | (refine q_g ?_; first | refine So_gy ?_ | refine So_gn ?_ | refine So_gu ?_ | refine So_gTn (fun hg => ?_) (fun hg => ?_) | refine So_gFn (fun hg => ?_) (fun hg => ?_) | refine So_gT (fun hg => ?_) (fun hg => ?_) | refine So_gF (fun hg => ?_) (fun hg => ?_) | refine So_gTm (fun hg => ?_) (fun hg => ?_) | refine So_gFm (fun hg => ?_) (fun hg => ?_) | refine So_gTb (fun hg => ?_) (fun hg => ?_) | refine So_gFb (fun hg => ?_) (fun hg => ?_)) | (refine q_mv ?_; first | refine So_mc ?_ | refine So_ma ?_ | refine So_mv ?_) | (refine q_as ?_; first | refine So_ac ?_ | refine So_aa ?_ | refine So_av ?_) | (refine q_ld ?_; first | refine So_lb ?_ | refine So_la ?_ | refine So_lp ?_ | refine So_lpa ?_ | refine So_lx ?_ | refine So_lxa ?_ | refine So_ln (fun x hx => ?_) | refine So_lna (fun x hx => ?_)) | (refine q_fa ?_; first | refine So_fa ?_ | refine So_fe ?_) | (refine q_ia ?_; first | refine So_ia ?_) | (refine q_bin ?_; first | refine So_lss ?_ | refine So_leq ?_ | refine So_gtr ?_ | refine So_geq ?_ | refine So_eql ?_ | refine So_neq ?_ | refine So_add ?_ | refine So_sub ?_ | refine So_mul ?_ | refine So_quo ?_ | refine So_rem ?_ | refine So_eqb ?_ | refine So_neb ?_) | (refine q_pk ?_; first | refine So_pt ?_ | refine So_pf ?_ | refine So_pb ?_) | (refine q_un ?_; first | refine So_notd ?_ | refine So_not ?_) | (refine q_len ?_; first | refine So_len ?_ | refine So_len0 ?_) | (refine q_st ?_; first | refine So_st (fun Hb hsb => ?_)) | (refine q_ex ?_; first | refine So_ex ?_) | (refine q_f ?_; first | refine So_f ?_ | refine So_ff ?_) | (refine q_bi ?_; first | refine So_min ?_ | refine So_max ?_) | (refine q_rt ?_; first | refine Rt1 ?_ | refine Rt2 ?_ | refine Rt3 ?_) | refine So_box (fun kb Hb hsb => ?_) | refine So_alloc (fun kb Hb hsb => ?_) | refine So_mf ?_)
  refine Ev_for l.length (fun i e h => ∃ kb n, e 1 = .one a ∧ e 2 = .one (.bp kb 0) ∧ e 5 = vint n ∧ e 6 = vint i ∧ Hs H h [(kb, .box c.cells)] ∧ 0 ≤ n ∧ n ≤ i * 100000000 ∧ useS c l = n + useS c (l.drop i)) ?_ ⟨_, 0, rfl, rfl, rfl, rfl, by assumption, by omega, by omega, by simp⟩
  rintro i e h hi ⟨ck, n, e1, e2, e3, e4, hs, n1, n2, hall⟩
  obtain ⟨e9, rfl⟩ := form4 e1 e2 e3 e4
  clear e1 e2 e3 e4
  repeat' (first | (refine q_ev ?_; first | refine Ev_seq.2 ?_ | refine Ev_block.2 ?_ | refine Ev_rp ?_ | refine Ev_rs ?_ | refine Ev_rt ?_ | refine Ev_skip.2 ?_ | refine Ev_ret.2 ?_ | refine Ev_exit.2 ?_ | refine Ev_ct ?_ | refine Ev_cf ?_ | refine Ev_cn (fun hg => ?_) (fun hg => ?_) | refine Ev_cd (fun hg => ?_) (fun hg => ?_) | refine Ev_cm (fun hg => ?_) (fun hg => ?_) | refine Ev_cs (fun hg => ?_) (fun hg => ?_)) | (refine q_nt ?_; first | refine So_nilR ?_) | (refine q_nil ?_; first | refine So_nil ?_) | (refine q_g ?_; first | refine So_gy ?_ | refine So_gn ?_ | refine So_gu ?_ | refine So_gTn (fun hg => ?_) (fun hg => ?_) | refine So_gFn (fun hg => ?_) (fun hg => ?_) | refine So_gT (fun hg => ?_) (fun hg => ?_) | refine So_gF (fun hg => ?_) (fun hg => ?_) | refine So_gTm (fun hg => ?_) (fun hg => ?_) | refine So_gFm (fun hg => ?_) (fun hg => ?_) | refine So_gTb (fun hg => ?_) (fun hg => ?_) | refine So_gFb (fun hg => ?_) (fun hg => ?_)) | (refine q_mv ?_; first | refine So_mc ?_ | refine So_ma ?_ | refine So_mv ?_) | (refine q_as ?_; first | refine So_ac ?_ | refine So_aa ?_ | refine So_av ?_) | (refine q_ld ?_; first | refine So_lb ?_ | refine So_la ?_ | refine So_lp ?_ | refine So_lpa ?_ | refine So_lx ?_ | refine So_lxa ?_ | (refine So_ln (ll := l) (fun x hx => ?_); have hx1 := hl.2 x (List.mem_of_getElem? hx); obtain ⟨y1, y2, y3, y4, y5, y6, y7, y8, y9⟩ := str_facts hc hx1 (wear := 0) (by omega); obtain ⟨x1, x2, x3, x4, x5, x6⟩ := hx1) | refine So_ln (fun x hx => ?_) | refine So_lna (fun x hx => ?_)) | (refine q_fa ?_; first | refine So_fa ?_ | refine So_fe ?_) | (refine q_ia ?_; first | refine So_ia ?_) | (refine q_bin ?_; first | refine So_lss ?_ | refine So_leq ?_ | refine So_gtr ?_ | refine So_geq ?_ | refine So_eql ?_ | refine So_neq ?_ | refine So_add ?_ | refine So_sub ?_ | refine So_mul ?_ | refine So_quo ?_ | refine So_rem ?_ | refine So_eqb ?_ | refine So_neb ?_) | (refine q_pk ?_; first | refine So_pt ?_ | refine So_pf ?_ | refine So_pb ?_) | (refine q_un ?_; first | refine So_notd ?_ | refine So_not ?_) | (refine q_len ?_; first | refine So_len ?_ | refine So_len0 ?_) | (refine q_st ?_; first | refine So_st (fun Hb hsb => ?_)) | (refine q_ex ?_; first | refine So_ex ?_) | (refine q_f ?_; first | refine So_f ?_ | refine So_ff ?_) | (refine q_bi ?_; first | refine So_min ?_ | refine So_max ?_) | (refine q_rt ?_; first | refine Rt1 ?_ | refine Rt2 ?_ | refine Rt3 ?_) | refine So_box (fun kb Hb hsb => ?_) | refine So_alloc (fun kb Hb hsb => ?_) | refine So_mf ?_)
  · exact ⟨by omega, ck, n + x.meters * wearAt c x, rfl, rfl, rfl, vint_s, hs, by omega, by push_cast; omega, by rw [hall, drop_at hx, useS]; omega⟩
  · rw [hall, List.drop_of_length_le (by omega)]
    simp [useS]

theorem useS_nonneg {c : Compound} (hc : CompOk c) : ∀ {l : List Stretch}, (∀ s ∈ l, StrOk c.dry.length s) → 0 ≤ useS c l := by
  intro l
  induction l with
  | nil => intro _; simp [useS]
  | cons s l ih =>
    intro h
    have := ih (fun s hs => h s (by simp [hs]))
    have h1 := (str_facts hc (h s (by simp)) (wear := 0) (by omega)).2.2.2.2.2.2.2.1
    rw [useS]; omega
theorem driven_false {c : Compound} : ∀ {l : List Stretch} {loss w : Int}, (drivenS c l loss w false).2.2 = false := by
  intro l
  induction l with
  | nil => intro _ _; rfl
  | cons s l ih => intro loss w; rw [drivenS]; split <;> exact ih
/-- It lasts where all that it takes fits. -/
theorem driven_lasts {c : Compound} (hc : CompOk c) : ∀ {l : List Stretch} {loss w : Int}, (∀ s ∈ l, StrOk c.dry.length s) → (drivenS c l loss w true).2.2 = decide (w + useS c l ≤ 1000000 ∨ l = []) := by
  intro l
  induction l with
  | nil => intro loss w _; simp [drivenS]
  | cons s l ih =>
    intro loss w h
    have hr : ∀ s ∈ l, StrOk c.dry.length s := fun s hs => h s (by simp [hs])
    have h0 := useS_nonneg hc hr
    rw [drivenS]
    split
    · rw [driven_false, decide_eq_false]
      rw [useS]
      simp
      omega
    · rename_i hw
      rw [ih hr]
      rw [useS]
      refine decide_eq_decide.2 ?_
      simp
      cases l with
      | nil => simp [useS]; omega
      | cons _ _ => simp; omega
end Go.AM.Car
