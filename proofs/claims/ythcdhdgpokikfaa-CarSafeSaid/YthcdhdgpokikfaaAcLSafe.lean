/- CarSafe answers true. -/
import Derived.Test.YthcdhdgpokikfaaAcSafe
import Derived.Test.YthcdhdgpokikfaaAcKnown
import Derived.Test.YthcdhdgpokikfaaAmWk4
open Go.Proofs
namespace Go.AM.Car
set_option maxRecDepth 10000
set_option maxHeartbeats 4000000

theorem lawSafe {c a : Cell} {l : List Leg} {b : List Int} (tank reserve start : Int) (H : AH) (hc : Sl H 3 c (l.map legC)) (ha : Sl H 1 a (b.map intC)) (hl : l.length ≤ 9223372036854775807) (hb : b.length ≤ 9223372036854775807) :
    Cv Try.prog 7 [vint tank, vint reserve, vint start, .one c, .one a] H (Cl (· = vbool true)) := by
  refine Cv_of Try.func7 rfl rfl rfl (fun H1 hs => ?_)
  repeat' (first | refine So_lx ?_ | refine So_lxa ?_ | refine So_fn (known_cv _) ?_ | refine So_fn (Safe_cv _ _ _ _ (hc.up hs) (ha.up hs) hl hb) ?_ | refine So_fn (tank_cv _ _ _ _ (hc.up hs) hl) ?_ | refine So_fn (rSafe_cv _ _ _ _ (hc.up hs) (ha.up hs) hl hb (by assumption)) ?_ | refine So_nil ?_ | refine So_nilT ?_ | refine So_gy ?_ | refine So_gn ?_ | refine So_gu ?_ | refine So_mc ?_ | refine So_ma ?_ | refine So_mv ?_ | refine So_ac ?_ | refine So_aa ?_ | refine So_av ?_ | refine So_fa ?_ | refine So_fe ?_ | refine So_lb ?_ | refine So_la ?_ | refine So_lx ?_ | refine So_lxa ?_ | refine So_ln (fun x hx => ?_) | refine So_lna (fun x hx => ?_) | refine So_len ?_ | refine So_len0 ?_ | refine So_ia ?_ | refine So_lss ?_ | refine So_leq ?_ | refine So_gtr ?_ | refine So_geq ?_ | refine So_eql ?_ | refine So_neq ?_ | refine So_eqb ?_ | refine So_neb ?_ | refine So_add ?_ | refine So_sub ?_ | refine So_mul ?_ | refine So_quo ?_ | refine So_pt ?_ | refine So_pf ?_ | refine So_pb ?_ | refine So_notd ?_ | refine So_not ?_ | refine So_f ?_ | refine So_ff ?_ | refine So_ex ?_ | refine So_mf ?_ | refine So_box (fun kb Hb hsb => ?_) | refine So_alloc (fun kb Hb hsb => ?_) | refine So_st (fun Hb hsb => ?_) | refine Ev_seq.2 ?_ | refine Ev_rp ?_ | refine Ev_rs ?_ | refine Ev_block.2 ?_ | refine Ev_skip.2 ?_ | refine Ev_ret.2 ?_ | refine Ev_exit.2 ?_ | refine Ev_ct ?_ | refine Ev_cf ?_ | refine Rt1 ?_ | refine Rt2 ?_ | refine Rt3 ?_ | refine So_gTn (fun hg => ?_) (fun hg => ?_) | refine So_gFn (fun hg => ?_) (fun hg => ?_) | refine So_gT (fun hg => ?_) (fun hg => ?_) | refine So_gF (fun hg => ?_) (fun hg => ?_) | refine So_gTm (fun hg => ?_) (fun hg => ?_) | refine So_gFm (fun hg => ?_) (fun hg => ?_) | refine So_gTb (fun hg => ?_) (fun hg => ?_) | refine So_gFb (fun hg => ?_) (fun hg => ?_) | refine Ev_cn (fun hg => ?_) (fun hg => ?_) | refine Ev_cd (fun hg => ?_) (fun hg => ?_) | refine Ev_cm (fun hg => ?_) (fun hg => ?_) | refine Ev_cs (fun hg => ?_) (fun hg => ?_))
  all_goals try rfl
  all_goals simp_all
end Go.AM.Car
