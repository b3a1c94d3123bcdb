/- Jobs and sets of jobs: the code's side. -/
import Derived.Test.YthcdhdgpokikfaaAcFirst
import Derived.Test.YthcdhdgpokikfaaAmM1
open Go.Proofs
namespace Go.AM.Car
set_option maxRecDepth 10000
set_option maxHeartbeats 4000000
variable {B : Option Nat}
structure Job where
  minutes : Int
  value : Int
  must : Bool
  needs : List Int
def jobC (j : Job) : List Cell := [cint j.minutes, cint j.value, cbool j.must, .lst 1 (j.needs.map intC)]
def NeedOk (i : Nat) (l : List Int) (k : Nat) : Prop := ∀ n, l[k]? = some n → 0 ≤ n ∧ n ≤ (i : Int) - 1 ∧ ∀ p, 0 < k → l[k - 1]? = some p → p < n
def JobOk (i : Nat) (j : Job) : Prop := 0 ≤ j.minutes ∧ j.minutes ≤ 1000 ∧ 0 ≤ j.value ∧ j.value ≤ 1000000 ∧ ∀ k, NeedOk i j.needs k
def JobsOk (l : List Job) : Prop := l.length ≤ 20 ∧ ∀ i j, l[i]? = some j → JobOk i j
noncomputable instance (l : List Job) : Decidable (JobsOk l) := Classical.propDecidable _
def Small (l : List Job) : Prop := l.length ≤ 30 ∧ ∀ j ∈ l, j.needs.length ≤ 30

theorem jobs_cv {l : List Job} (H : AH) (hl : Small l) : Cv Try.prog 60 [.one (.lst 4 (l.map jobC))] H (Cl (· = vbool (decide (JobsOk l)))) := by
  obtain ⟨hl1, hl2⟩ := hl
  refine Cv_of Try.func60 rfl rfl rfl (fun H1 hs => ?_)
  repeat' (first | (refine q_ev ?_; first | refine Ev_seq.2 ?_ | refine Ev_block.2 ?_ | refine Ev.scope ?_ | refine Ev_label.2 ?_ | refine Ev_rp ?_ | refine Ev_rs ?_ | refine Ev_rt ?_ | refine Ev_skip.2 ?_ | refine Ev_ret.2 ?_ | refine Ev_exit.2 ?_ | refine Ev_ct ?_ | refine Ev_cf ?_ | refine Ev_cn (fun hg => ?_) (fun hg => ?_) | refine Ev_cd (fun hg => ?_) (fun hg => ?_) | refine Ev_cm (fun hg => ?_) (fun hg => ?_) | refine Ev_cs (fun hg => ?_) (fun hg => ?_)) | (refine q_nt ?_; first | refine So_nilR ?_) | (refine q_nil ?_; first | refine So_nil ?_) | (refine q_g ?_; first | refine So_gy ?_ | refine So_gn ?_ | refine So_gu ?_ | refine So_gTn (fun hg => ?_) (fun hg => ?_) | refine So_gFn (fun hg => ?_) (fun hg => ?_) | refine So_gT (fun hg => ?_) (fun hg => ?_) | refine So_gF (fun hg => ?_) (fun hg => ?_) | refine So_gTm (fun hg => ?_) (fun hg => ?_) | refine So_gFm (fun hg => ?_) (fun hg => ?_) | refine So_gTb (fun hg => ?_) (fun hg => ?_) | refine So_gFb (fun hg => ?_) (fun hg => ?_)) | (refine q_mv ?_; first | refine So_mc ?_ | refine So_ma ?_ | refine So_mv ?_) | (refine q_as ?_; first | refine So_ac ?_ | refine So_aa ?_ | refine So_av ?_) | (refine q_ld ?_; first | refine So_lb ?_ | refine So_la ?_ | refine So_lp ?_ | refine So_lpa ?_ | refine So_lx ?_ | refine So_lxa ?_ | refine So_lxO ?_ | refine So_lxaO ?_ | refine So_ln (fun x hx => ?_) | refine So_lna (fun x hx => ?_) | refine So_lnO (fun x hx => ?_) | refine So_lnaO (fun x hx => ?_)) | (refine q_fa ?_; first | refine So_fa ?_ | refine So_fe ?_) | (refine q_ia ?_; first | refine So_ia ?_ | refine So_iaO ?_) | (refine q_bin ?_; first | refine So_lss ?_ | refine So_leq ?_ | refine So_gtr ?_ | refine So_geq ?_ | refine So_eql ?_ | refine So_neq ?_ | refine So_add ?_ | refine So_sub ?_ | refine So_mul ?_ | refine So_quo ?_ | refine So_rem ?_ | refine So_eqb ?_ | refine So_neb ?_ | refine So_lssw ?_ | refine So_eqlw ?_ | refine So_neqw ?_ | refine So_addw ?_ | refine So_shl ?_ | refine So_shr ?_ | refine So_and1 ?_) | (refine q_pk ?_; first | refine So_pt ?_ | refine So_pf ?_ | refine So_pb ?_) | (refine q_un ?_; first | refine So_notd ?_ | refine So_not ?_) | (refine q_len ?_; first | refine So_len ?_ | refine So_len0 ?_ | refine So_lenO ?_) | (refine q_st ?_; first | refine So_st (fun Hb hsb => ?_) | refine So_stO (fun Hb hsb => ?_)) | (refine q_ex ?_; first | refine So_ex ?_) | (refine q_sl ?_; first | refine So_slh ?_ | refine So_sll ?_) | (refine q_f ?_; first | refine So_f ?_ | refine So_ff ?_) | (refine q_bi ?_; first | refine So_min ?_ | refine So_max ?_ | refine So_apq (fun cg gg Hb hgg hsb => ?_) | refine So_apr (fun cg gg Hb hgg hsb => ?_) | refine So_ap0 (fun kb Hb hsb => ?_) | refine So_ap1 (fun Hb hsb => ?_)) | (refine q_rt ?_; first | refine Rt1 ?_ | refine Rt2 ?_ | refine Rt3 ?_ | refine Ro1 ?_ | refine Ro2 ?_ | refine Ro3 ?_ | refine RtC ?_) | refine So_box (fun kb Hb hsb => ?_) | refine So_alloc (fun kb Hb hsb => ?_) | refine So_mf ?_ | refine So_bs (fun kb Hb hsb => ?_) | refine So_bd ?_ | fail)
  refine Ev_for l.length (fun i e h => e 0 = .one (.lst 4 (l.map jobC)) ∧ e 7 = .one (.lst 4 (l.map jobC)) ∧ e 8 = vint l.length ∧ e 9 = vint i ∧ Hs H h [] ∧ ∀ (q : Nat) j, q < i → l[q]? = some j → JobOk q j) ?_ ⟨rfl, rfl, rfl, rfl, hs, fun q j hq => by omega⟩
  clear hs
  rintro i e h hi ⟨e1, e2, e3, e4, hs, hall⟩
  obtain ⟨e9, rfl⟩ := form4 e1 e2 e3 e4
  clear e1 e2 e3 e4
  repeat' (first | (refine q_ev ?_; first | refine Ev_seq.2 ?_ | refine Ev_block.2 ?_ | refine Ev.scope ?_ | refine Ev_label.2 ?_ | refine Ev_rp ?_ | refine Ev_rs ?_ | refine Ev_rt ?_ | refine Ev_skip.2 ?_ | refine Ev_ret.2 ?_ | refine Ev_exit.2 ?_ | refine Ev_ct ?_ | refine Ev_cf ?_ | refine Ev_cn (fun hg => ?_) (fun hg => ?_) | refine Ev_cd (fun hg => ?_) (fun hg => ?_) | refine Ev_cm (fun hg => ?_) (fun hg => ?_) | refine Ev_cs (fun hg => ?_) (fun hg => ?_)) | (refine q_nt ?_; first | refine So_nilR ?_) | (refine q_nil ?_; first | refine So_nil ?_) | (refine q_g ?_; first | refine So_gy ?_ | refine So_gn ?_ | refine So_gu ?_ | refine So_gTn (fun hg => ?_) (fun hg => ?_) | refine So_gFn (fun hg => ?_) (fun hg => ?_) | refine So_gT (fun hg => ?_) (fun hg => ?_) | refine So_gF (fun hg => ?_) (fun hg => ?_) | refine So_gTm (fun hg => ?_) (fun hg => ?_) | refine So_gFm (fun hg => ?_) (fun hg => ?_) | refine So_gTb (fun hg => ?_) (fun hg => ?_) | refine So_gFb (fun hg => ?_) (fun hg => ?_)) | (refine q_mv ?_; first | refine So_mc ?_ | refine So_ma ?_ | refine So_mv ?_) | (refine q_as ?_; first | refine So_ac ?_ | refine So_aa ?_ | refine So_av ?_) | (refine q_ld ?_; first | refine So_lb ?_ | refine So_la ?_ | refine So_lp ?_ | refine So_lpa ?_ | refine So_lx ?_ | refine So_lxa ?_ | refine So_lxO ?_ | refine So_lxaO ?_ | refine So_lna (ll := l) (fun j hj => ?_) | refine So_ln (fun x hx => ?_) | refine So_lna (fun x hx => ?_) | refine So_lnO (fun x hx => ?_) | refine So_lnaO (fun x hx => ?_)) | (refine q_fa ?_; first | refine So_fa ?_ | refine So_fe ?_) | (refine q_ia ?_; first | refine So_ia ?_ | refine So_iaO ?_) | (refine q_cl ?_; first | refine So_fn (within_cv _ _ _ _) ?_) | (refine q_bin ?_; first | refine So_lss ?_ | refine So_leq ?_ | refine So_gtr ?_ | refine So_geq ?_ | refine So_eql ?_ | refine So_neq ?_ | refine So_add ?_ | refine So_sub ?_ | refine So_mul ?_ | refine So_quo ?_ | refine So_rem ?_ | refine So_eqb ?_ | refine So_neb ?_ | refine So_lssw ?_ | refine So_eqlw ?_ | refine So_neqw ?_ | refine So_addw ?_ | refine So_shl ?_ | refine So_shr ?_ | refine So_and1 ?_) | (refine q_pk ?_; first | refine So_pt ?_ | refine So_pf ?_ | refine So_pb ?_) | (refine q_un ?_; first | refine So_notd ?_ | refine So_not ?_) | (refine q_len ?_; first | refine So_len ?_ | refine So_len0 ?_ | refine So_lenO ?_) | (refine q_st ?_; first | refine So_st (fun Hb hsb => ?_) | refine So_stO (fun Hb hsb => ?_)) | (refine q_ex ?_; first | refine So_ex ?_) | (refine q_sl ?_; first | refine So_slh ?_ | refine So_sll ?_) | (refine q_f ?_; first | refine So_f ?_ | refine So_ff ?_) | (refine q_bi ?_; first | refine So_min ?_ | refine So_max ?_ | refine So_apq (fun cg gg Hb hgg hsb => ?_) | refine So_apr (fun cg gg Hb hgg hsb => ?_) | refine So_ap0 (fun kb Hb hsb => ?_) | refine So_ap1 (fun Hb hsb => ?_)) | (refine q_rt ?_; first | refine Rt1 ?_ | refine Rt2 ?_ | refine Rt3 ?_ | refine Ro1 ?_ | refine Ro2 ?_ | refine Ro3 ?_ | refine RtC ?_) | refine So_box (fun kb Hb hsb => ?_) | refine So_alloc (fun kb Hb hsb => ?_) | refine So_mf ?_ | refine So_bs (fun kb Hb hsb => ?_) | refine So_bd ?_ | fail)
  · exact dF (fun h => hg (by have := h.2 i j hj; unfold JobOk at this; omega))
  · exact dF (fun h => hg (by have := h.2 i j hj; unfold JobOk at this; omega))
  · have hjl := hl2 j (List.mem_of_getElem? hj)
    have gm := hg
    refine Ev_for j.needs.length (fun k e h => ∃ kj, e 0 = .one (.lst 4 (l.map jobC)) ∧ e 3 = vint i ∧ e 4 = .one (.bp kj 0) ∧ e 7 = .one (.lst 4 (l.map jobC)) ∧ e 8 = vint l.length ∧ e 9 = vint i ∧ e 25 = .one (.lst 1 (j.needs.map intC)) ∧ e 26 = vint j.needs.length ∧ e 27 = vint k ∧ Hs H h [(kj, .box (jobC j))] ∧ ∀ q, q < k → NeedOk i j.needs q) ?_ ⟨_, rfl, rfl, rfl, rfl, rfl, rfl, rfl, rfl, rfl, hsb, fun q hq => by omega⟩
    clear hs hsb
    rintro k e h hk ⟨kj, e1, e2, e3, e4, e5, e6, e7, e8, e9, hs, hall2⟩
    obtain ⟨e0, rfl⟩ := form9 e1 e2 e3 e4 e5 e6 e7 e8 e9
    clear e1 e2 e3 e4 e5 e6 e7 e8 e9
    repeat' (first | (refine q_ev ?_; first | refine Ev_seq.2 ?_ | refine Ev_block.2 ?_ | refine Ev.scope ?_ | refine Ev_label.2 ?_ | refine Ev_rp ?_ | refine Ev_rs ?_ | refine Ev_rt ?_ | refine Ev_skip.2 ?_ | refine Ev_ret.2 ?_ | refine Ev_exit.2 ?_ | refine Ev_ct ?_ | refine Ev_cf ?_ | refine Ev_cn (fun hg => ?_) (fun hg => ?_) | refine Ev_cd (fun hg => ?_) (fun hg => ?_) | refine Ev_cm (fun hg => ?_) (fun hg => ?_) | refine Ev_cs (fun hg => ?_) (fun hg => ?_)) | (refine q_nt ?_; first | refine So_nilR ?_) | (refine q_nil ?_; first | refine So_nil ?_) | (refine q_g ?_; first | refine So_gy ?_ | refine So_gn ?_ | refine So_gu ?_ | refine So_gTn (fun hg => ?_) (fun hg => ?_) | refine So_gFn (fun hg => ?_) (fun hg => ?_) | refine So_gT (fun hg => ?_) (fun hg => ?_) | refine So_gF (fun hg => ?_) (fun hg => ?_) | refine So_gTm (fun hg => ?_) (fun hg => ?_) | refine So_gFm (fun hg => ?_) (fun hg => ?_) | refine So_gTb (fun hg => ?_) (fun hg => ?_) | refine So_gFb (fun hg => ?_) (fun hg => ?_)) | (refine q_mv ?_; first | refine So_mc ?_ | refine So_ma ?_ | refine So_mv ?_) | (refine q_as ?_; first | refine So_ac ?_ | refine So_aa ?_ | refine So_av ?_) | (refine q_ld ?_; first | refine So_lb ?_ | refine So_la ?_ | refine So_lp ?_ | refine So_lpa ?_ | refine So_lx ?_ | refine So_lxa ?_ | refine So_lxO ?_ | refine So_lxaO ?_ | refine So_ln (ll := j.needs) (fun n hn => ?_) | refine So_ln (fun x hx => ?_) | refine So_lna (fun x hx => ?_) | refine So_lnO (fun x hx => ?_) | refine So_lnaO (fun x hx => ?_)) | (refine q_fa ?_; first | refine So_fa ?_ | refine So_fe ?_) | (refine q_ia ?_; first | refine So_ia ?_ | refine So_iaO ?_) | (refine q_cl ?_; first | refine So_fn (within_cv _ _ _ _) ?_) | (refine q_bin ?_; first | refine So_lss ?_ | refine So_leq ?_ | refine So_gtr ?_ | refine So_geq ?_ | refine So_eql ?_ | refine So_neq ?_ | refine So_add ?_ | refine So_sub ?_ | refine So_mul ?_ | refine So_quo ?_ | refine So_rem ?_ | refine So_eqb ?_ | refine So_neb ?_ | refine So_lssw ?_ | refine So_eqlw ?_ | refine So_neqw ?_ | refine So_addw ?_ | refine So_shl ?_ | refine So_shr ?_ | refine So_and1 ?_) | (refine q_pk ?_; first | refine So_pt ?_ | refine So_pf ?_ | refine So_pb ?_) | (refine q_un ?_; first | refine So_notd ?_ | refine So_not ?_) | (refine q_len ?_; first | refine So_len ?_ | refine So_len0 ?_ | refine So_lenO ?_) | (refine q_st ?_; first | refine So_st (fun Hb hsb => ?_) | refine So_stO (fun Hb hsb => ?_)) | (refine q_ex ?_; first | refine So_ex ?_) | (refine q_sl ?_; first | refine So_slh ?_ | refine So_sll ?_) | (refine q_f ?_; first | refine So_f ?_ | refine So_ff ?_) | (refine q_bi ?_; first | refine So_min ?_ | refine So_max ?_ | refine So_apq (fun cg gg Hb hgg hsb => ?_) | refine So_apr (fun cg gg Hb hgg hsb => ?_) | refine So_ap0 (fun kb Hb hsb => ?_) | refine So_ap1 (fun Hb hsb => ?_)) | (refine q_rt ?_; first | refine Rt1 ?_ | refine Rt2 ?_ | refine Rt3 ?_ | refine Ro1 ?_ | refine Ro2 ?_ | refine Ro3 ?_ | refine RtC ?_) | refine So_box (fun kb Hb hsb => ?_) | refine So_alloc (fun kb Hb hsb => ?_) | refine So_mf ?_ | refine So_bs (fun kb Hb hsb => ?_) | refine So_bd ?_ | fail)
    · exact dF (fun h => hg (by have := (h.2 i j hj).2.2.2.2 k n hn; omega))
    · rename_i _ n0 hn0 _ _
      exact dF (fun h => by have := ((h.2 i j hj).2.2.2.2 k n0 hn0).2.2 n (by omega) hn; omega)
    · rename_i _ n0 hn0 _ _
      exact ⟨by omega, kj, rfl, rfl, rfl, rfl, rfl, rfl, rfl, rfl, vint_s, hs, fun q hq => by
        by_cases hqk : q = k
        · subst hqk
          intro m hm
          obtain rfl := uniq hn0 hm
          exact ⟨by omega, by omega, fun p _ hp => by obtain rfl := uniq hn hp; omega⟩
        · exact hall2 q (by omega)⟩
    · exact ⟨by omega, kj, rfl, rfl, rfl, rfl, rfl, rfl, rfl, rfl, vint_s, hs, fun q hq => by
        by_cases hqk : q = k
        · subst hqk
          intro m hm
          obtain rfl := uniq hn hm
          exact ⟨by omega, by omega, fun p h0 _ => by omega⟩
        · exact hall2 q (by omega)⟩
    · refine ⟨by omega, rfl, rfl, rfl, vint_s, hs.sub (List.nil_sublist _), fun q j' hq hj' => ?_⟩
      by_cases hqi : q = i
      · subst hqi
        obtain rfl := uniq hj hj'
        exact ⟨by omega, by omega, by omega, by omega, fun q m hm => hall2 q (by have := (List.getElem?_eq_some_iff.1 hm).1; omega) m hm⟩
      · exact hall q j' (by omega) hj'
  · refine dI ⟨fun h => ⟨by omega, fun q j hj => hall q j (by have := (List.getElem?_eq_some_iff.1 hj).1; omega) hj⟩, fun h => by have := h.1; omega⟩
end Go.AM.Car
