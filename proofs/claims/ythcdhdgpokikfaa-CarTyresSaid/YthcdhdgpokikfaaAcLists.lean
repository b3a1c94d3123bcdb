/- All lists of so many numbers; all plans. -/
import Derived.Test.YthcdhdgpokikfaaAcTyresW
import Derived.Test.YthcdhdgpokikfaaAcBestR
open Go.Proofs
namespace Go.AM.Car
set_option maxRecDepth 10000
set_option maxHeartbeats 4000000
variable {B : Option Nat}

/-! Slices of slices, made here -/
def one1 (c : Cell) : List Cell := [c]
inductive GrL : List Cell → List (List Int) → List (Nat × Blk) → Prop
  | nil : GrL [] [] []
  | snoc {cs : List Cell} {xss : List (List Int)} {gs g : List (Nat × Blk)} {c : Cell} {xs : List Int} (h : GrL cs xss gs) (hg : Gr 1 c (xs.map intC) g) : GrL (cs ++ [c]) (xss ++ [xs]) (g ++ gs)
theorem GrL.len {cs : List Cell} {xss : List (List Int)} {gs : List (Nat × Blk)} (h : GrL cs xss gs) : cs.length = xss.length := by
  induction h with
  | nil => rfl
  | snoc _ _ ih => simp [ih]
theorem GrL.at_ {cs : List Cell} {xss : List (List Int)} {gs : List (Nat × Blk)} (h : GrL cs xss gs) : ∀ {j : Nat} {c : Cell}, cs[j]? = some c → ∃ xs g, xss[j]? = some xs ∧ Gr 1 c (xs.map intC) g ∧ Inl g gs := by
  induction h with
  | nil => intro j c hc; simp at hc
  | @snoc cs xss gs g c' xs h hg ih =>
    intro j c hc
    have hl := h.len
    by_cases hj : j < cs.length
    · rw [List.getElem?_append_left hj] at hc
      obtain ⟨ys, g', h1, h2, h3⟩ := ih hc
      exact ⟨ys, g', by rw [List.getElem?_append_left (by omega)]; exact h1, h2, .right h3⟩
    · rw [List.getElem?_append_right (by omega)] at hc
      have hj0 : j - cs.length = 0 := by
        cases hk : j - cs.length with
        | zero => rfl
        | succ n => rw [hk] at hc; simp at hc
      rw [hj0] at hc
      simp at hc
      subst hc
      exact ⟨xs, g, by rw [List.getElem?_append_right (by omega), show j - xss.length = 0 by omega]; rfl, hg, .here⟩
/-- Cells that are these lists in every heap. -/
def PureL (cs : List Cell) (xss : List (List Int)) : Prop := cs.length = xss.length ∧ ∀ (j : Nat) c xs, cs[j]? = some c → xss[j]? = some xs → ∀ H, Sl H 1 c (xs.map intC)
theorem ints_flat {l : List Int} : ∀ r ∈ l.map intC, ∀ c ∈ r, flat c = true := fun r hr c hc => by
  obtain ⟨x, _, rfl⟩ := List.mem_map.1 hr
  simp [intC] at hc
  subst hc
  rfl
theorem gr_fzn {H0 h : AH} {g l : List (Nat × Blk)} {sz n : Nat} {c : Cell} {rows : List (List Cell)} (hg : Gr sz c rows g) (hs : HsB B H0 h l) (hi : ∀ p ∈ g, p ∈ l) (hf : ∀ r ∈ rows, ∀ c ∈ r, flat c = true) : ∃ c', frzC h.bl H0.nx (n + 2) c = some c' ∧ ∀ H, Sl H sz c' rows := by
  cases hg with
  | nil => exact ⟨cnil, rfl, fun _ => .nil⟩
  | @arr k m _ hn =>
    have hm := hi _ (.head _)
    have h1 := hs.at_ _ hm
    have h2 := hs.ge _ hm
    simp only at h1 h2
    refine ⟨.lst sz rows, ?_, fun _ => .lst⟩
    rw [frzC]
    simp only [h2.1, if_true, h1, hn, List.drop_zero]
    rw [← hn, List.take_length, mapM_id (g := id)]
    · simp
    · intro r hr
      rw [mapM_id (g := id)]
      · simp
      · intro c hc
        exact frz_flat (hf r hr c hc)
theorem grl_fz {H0 h : AH} {cs : List Cell} {xss : List (List Int)} {gs l : List (Nat × Blk)} {n : Nat} (hg : GrL cs xss gs) (hs : HsB B H0 h l) : (∀ p ∈ gs, p ∈ l) → ∃ cs', cs.mapM (frzC h.bl H0.nx (n + 2)) = some cs' ∧ PureL cs' xss := by
  induction hg with
  | nil => exact fun _ => ⟨[], rfl, rfl, fun j c xs hc => by simp at hc⟩
  | @snoc cs xss gs g c xs hg hgc ih =>
    intro hi
    obtain ⟨cs', h1, h2, h3⟩ := ih (fun p hp => hi p (List.mem_append_right _ hp))
    obtain ⟨c', h4, h5⟩ := gr_fzn (n := n) hgc hs (fun p hp => hi p (List.mem_append_left _ hp)) ints_flat
    refine ⟨cs' ++ [c'], by simp [List.mapM_append, h1, h4], by simp [h2], fun j d ys hd hy => ?_⟩
    by_cases hj : j < cs'.length
    · rw [List.getElem?_append_left hj] at hd
      rw [List.getElem?_append_left (by omega)] at hy
      exact h3 j d ys hd hy
    · rw [List.getElem?_append_right (by omega)] at hd hy
      rw [← h2] at hy
      have hj0 : j - cs'.length = 0 := by
        cases hk : j - cs'.length with
        | zero => rfl
        | succ n => rw [hk] at hd; simp at hd
      rw [hj0] at hd hy
      simp at hd hy
      subst hd hy
      exact h5
theorem inl_trans {g k l : List (Nat × Blk)} (h : Inl g k) (h2 : Inl k l) : Inl g l := by
  induction h2 with
  | here => exact .left h
  | refl => exact h
  | tail _ ih => exact .tail ih
  | right _ ih => exact .right ih
  | left _ ih => exact .left ih
/-- What a slice of slices is, behind the call. -/
theorem grl_done {H0 h : AH} {c : Cell} {cs : List Cell} {xss : List (List Int)} {g gs l : List (Nat × Blk)} (hc : Gr 1 c (cs.map one1) g) (hg : GrL cs xss gs) (hs : HsB B H0 h l) (i1 : ∀ p ∈ g, p ∈ l) (i2 : ∀ p ∈ gs, p ∈ l) : ∃ c' cs', fz H0 h (.one c) (.one c') ∧ (∀ H, Sl H 1 c' (cs'.map one1)) ∧ PureL cs' xss := by
  obtain ⟨cs', h1, h2⟩ := grl_fz (n := 3) hg hs i2
  generalize hr : cs.map one1 = rows at hc
  cases hc with
  | nil =>
    have : cs = [] := List.map_eq_nil_iff.1 hr
    subst this
    simp at h1
    subst h1
    exact ⟨cnil, [], rfl, fun _ => .nil, h2⟩
  | @arr k m _ hn =>
    have hm := i1 _ (.head _)
    have h3 := hs.at_ _ hm
    have h4 := hs.ge _ hm
    simp only at h3 h4
    refine ⟨.lst 1 (cs'.map one1), cs', ?_, fun _ => .lst, h2⟩
    have h5 : frzC h.bl H0.nx 6 (.sl k m 0 m) = some (.lst 1 (cs'.map one1)) := by
      rw [frzC]
      simp only [h4.1, if_true, h3, hn, List.drop_zero]
      rw [← hn, List.take_length, ← hr]
      have h6 : ∀ {l l' : List Cell}, l.mapM (frzC h.bl H0.nx 5) = some l' → (l.map one1).mapM (fun r => List.mapM (frzC h.bl H0.nx 5) r) = some (l'.map one1) := by
        intro l
        induction l with
        | nil => intro l' h; simp at h; subst h; rfl
        | cons x l ih =>
          intro l' hh
          rw [List.mapM_cons] at hh
          cases hx : frzC h.bl H0.nx 5 x with
          | none => rw [hx] at hh; simp at hh
          | some y =>
            rw [hx] at hh
            cases hl : l.mapM (frzC h.bl H0.nx 5) with
            | none => rw [hl] at hh; simp at hh
            | some ys =>
              rw [hl] at hh
              simp at hh
              subst hh
              rw [List.map_cons, List.mapM_cons, ih hl]
              simp [one1, hx]
      rw [h6 h1]
      rfl
    unfold fz
    show (frzC h.bl H0.nx 6 (.sl k m 0 m)).map AV.one = _
    rw [h5]
    rfl
theorem lists_len {b : Nat} : ∀ {n : Nat}, (listsS b n).length = b ^ n := by
  intro n
  induction n with
  | zero => rfl
  | succ n ih =>
    rw [listsS, List.length_flatMap]
    have : (listsS b n).map (fun o => ((List.range b).map fun (x : Nat) => o ++ [(x : Int)]).length) = List.replicate (b ^ n) b := by
      rw [List.eq_replicate_iff]
      exact ⟨by simp [ih], fun x hx => by obtain ⟨o, _, rfl⟩ := List.mem_map.1 hx; simp⟩
    rw [this, List.sum_replicate_nat, Nat.pow_succ]
theorem lists_small {b n : Nat} (hn : n ≤ 4) (hb : b ≤ 3) : (listsS b n).length ≤ 81 := by
  rw [lists_len]
  exact Nat.le_trans (Nat.pow_le_pow_left hb n) (Nat.le_trans (Nat.pow_le_pow_right (by omega) hn) (by decide))
abbrev extS (b : Nat) (o : List Int) : List (List Int) := (List.range b).map fun (x : Nat) => o ++ [(x : Int)]
theorem lists_cv (n b : Nat) (H : AH) (hn : n ≤ 4) (hb : b ≤ 3) : Cv Try.prog 86 [vint n, vint b] H (Cl (fun r => ∃ c cs, r = .one c ∧ (∀ H, Sl H 1 c (cs.map one1)) ∧ PureL cs (listsS b n))) := by
  refine Cv_of Try.func86 rfl rfl rfl (fun H1 hs => ?_)
  repeat' (first | (refine q_ev ?_; first | refine Ev_seq.2 ?_ | refine Ev_block.2 ?_ | refine Ev.scope ?_ | refine Ev_label.2 ?_ | refine Ev_rp ?_ | refine Ev_rs ?_ | refine Ev_rt ?_ | refine Ev_skip.2 ?_ | refine Ev_ret.2 ?_ | refine Ev_exit.2 ?_ | refine Ev_ct ?_ | refine Ev_cf ?_ | refine Ev_cn (fun hg => ?_) (fun hg => ?_) | refine Ev_cd (fun hg => ?_) (fun hg => ?_) | refine Ev_cm (fun hg => ?_) (fun hg => ?_) | refine Ev_cs (fun hg => ?_) (fun hg => ?_)) | (refine q_nt ?_; first | refine So_nilR ?_) | (refine q_nil ?_; first | refine So_nil ?_) | (refine q_g ?_; first | refine So_gy ?_ | refine So_gn ?_ | refine So_gu ?_ | refine So_gTn (fun hg => ?_) (fun hg => ?_) | refine So_gFn (fun hg => ?_) (fun hg => ?_) | refine So_gT (fun hg => ?_) (fun hg => ?_) | refine So_gF (fun hg => ?_) (fun hg => ?_) | refine So_gTm (fun hg => ?_) (fun hg => ?_) | refine So_gFm (fun hg => ?_) (fun hg => ?_) | refine So_gTb (fun hg => ?_) (fun hg => ?_) | refine So_gFb (fun hg => ?_) (fun hg => ?_)) | (refine q_mv ?_; first | refine So_mc ?_ | refine So_ma ?_ | refine So_mv ?_) | (refine q_as ?_; first | refine So_ac ?_ | refine So_aa ?_ | refine So_av ?_) | (refine q_ld ?_; first | refine So_lb ?_ | refine So_la ?_ | refine So_lp ?_ | refine So_lpa ?_ | refine So_lx ?_ | refine So_lxa ?_ | refine So_lxO ?_ | refine So_lxaO ?_ | refine So_ln (fun x hx => ?_) | refine So_lna (fun x hx => ?_) | refine So_lnO (fun x hx => ?_) | refine So_lnaO (fun x hx => ?_)) | (refine q_fa ?_; first | refine So_fa ?_ | refine So_fe ?_) | (refine q_ia ?_; first | refine So_ia ?_ | refine So_iaO ?_) | (refine q_bin ?_; first | refine So_lss ?_ | refine So_leq ?_ | refine So_gtr ?_ | refine So_geq ?_ | refine So_eql ?_ | refine So_neq ?_ | refine So_add ?_ | refine So_sub ?_ | refine So_mul ?_ | refine So_quo ?_ | refine So_rem ?_ | refine So_eqb ?_ | refine So_neb ?_ | refine So_lssw ?_ | refine So_eqlw ?_ | refine So_neqw ?_ | refine So_addw ?_ | refine So_shl ?_ | refine So_shr ?_ | refine So_and1 ?_) | (refine q_pk ?_; first | refine So_pt ?_ | refine So_pf ?_ | refine So_pb ?_) | (refine q_un ?_; first | refine So_notd ?_ | refine So_not ?_) | (refine q_len ?_; first | refine So_len ?_ | refine So_len0 ?_ | refine So_lenO ?_) | (refine q_st ?_; first | refine So_st (fun Hb hsb => ?_) | refine So_stO (fun Hb hsb => ?_)) | (refine q_ex ?_; first | refine So_ex ?_) | (refine q_sl ?_; first | refine So_slh ?_ | refine So_sll ?_) | (refine q_f ?_; first | refine So_f ?_ | refine So_ff ?_) | (refine q_bi ?_; first | refine So_min ?_ | refine So_max ?_ | refine So_apq (fun cg gg Hb hgg hsb => ?_) | refine So_apr (fun cg gg Hb hgg hsb => ?_) | refine So_ap0 (fun kb Hb hsb => ?_) | refine So_ap1 (fun Hb hsb => ?_)) | (refine q_rt ?_; first | refine Rt1 ?_ | refine Rt2 ?_ | refine Rt3 ?_ | refine Ro1 ?_ | refine Ro2 ?_ | refine Ro3 ?_ | refine RtC ?_) | refine So_box (fun kb Hb hsb => ?_) | refine So_alloc (fun kb Hb hsb => ?_) | refine So_mf ?_ | refine So_bs (fun kb Hb hsb => ?_) | refine So_bd ?_ | fail)
  refine Ev_for n (fun i e h => ∃ B co cells1 g1 gs1, e 0 = vint n ∧ e 1 = vint b ∧ e 5 = .one co ∧ e 6 = vint i ∧ HsB B H h (g1 ++ gs1) ∧ Gr 1 co (cells1.map one1) g1 ∧ GrL cells1 (listsS b i) gs1) ?_ ⟨_, _, [cnil], [_], [], rfl, rfl, rfl, rfl, hsb, .arr (n := 1) rfl, .snoc (xs := []) .nil .nil⟩
  clear hsb hs
  rintro i e h hi ⟨B, co, cells1, g1, gs1, e1, e2, e3, e4, hs, hg1, hL1⟩
  obtain ⟨e0, rfl⟩ := form4 e1 e2 e3 e4
  clear e1 e2 e3 e4
  have hlen := lists_small (b := b) (n := i) (by omega) hb
  have hll := hL1.len
  by_cases hin : i < n
  · repeat' (first | (refine q_ev ?_; first | refine Ev_seq.2 ?_ | refine Ev_block.2 ?_ | refine Ev.scope ?_ | refine Ev_label.2 ?_ | refine Ev_rp ?_ | refine Ev_rs ?_ | refine Ev_rt ?_ | refine Ev_skip.2 ?_ | refine Ev_ret.2 ?_ | refine Ev_exit.2 ?_ | refine Ev_ct ?_ | refine Ev_cf ?_ | refine Ev_cn (fun hg => ?_) (fun hg => ?_) | refine Ev_cd (fun hg => ?_) (fun hg => ?_) | refine Ev_cm (fun hg => ?_) (fun hg => ?_) | refine Ev_cs (fun hg => ?_) (fun hg => ?_)) | (refine q_nt ?_; first | refine So_nilR ?_) | (refine q_nil ?_; first | refine So_nil ?_) | (refine q_g ?_; first | refine So_gy ?_ | refine So_gn ?_ | refine So_gu ?_ | refine So_gTn (fun hg => ?_) (fun hg => ?_) | refine So_gFn (fun hg => ?_) (fun hg => ?_) | refine So_gT (fun hg => ?_) (fun hg => ?_) | refine So_gF (fun hg => ?_) (fun hg => ?_) | refine So_gTm (fun hg => ?_) (fun hg => ?_) | refine So_gFm (fun hg => ?_) (fun hg => ?_) | refine So_gTb (fun hg => ?_) (fun hg => ?_) | refine So_gFb (fun hg => ?_) (fun hg => ?_)) | (refine q_mv ?_; first | refine So_mc ?_ | refine So_ma ?_ | refine So_mv ?_) | (refine q_as ?_; first | refine So_ac ?_ | refine So_aa ?_ | refine So_av ?_) | (refine q_ld ?_; first | refine So_lb ?_ | refine So_la ?_ | refine So_lp ?_ | refine So_lpa ?_ | refine So_lx ?_ | refine So_lxa ?_ | refine So_lxO ?_ | refine So_lxaO ?_ | refine So_ln (fun x hx => ?_) | refine So_lna (fun x hx => ?_) | refine So_lnO (fun x hx => ?_) | refine So_lnaO (fun x hx => ?_)) | (refine q_fa ?_; first | refine So_fa ?_ | refine So_fe ?_) | (refine q_ia ?_; first | refine So_ia ?_ | refine So_iaO ?_) | (refine q_bin ?_; first | refine So_lss ?_ | refine So_leq ?_ | refine So_gtr ?_ | refine So_geq ?_ | refine So_eql ?_ | refine So_neq ?_ | refine So_add ?_ | refine So_sub ?_ | refine So_mul ?_ | refine So_quo ?_ | refine So_rem ?_ | refine So_eqb ?_ | refine So_neb ?_ | refine So_lssw ?_ | refine So_eqlw ?_ | refine So_neqw ?_ | refine So_addw ?_ | refine So_shl ?_ | refine So_shr ?_ | refine So_and1 ?_) | (refine q_pk ?_; first | refine So_pt ?_ | refine So_pf ?_ | refine So_pb ?_) | (refine q_un ?_; first | refine So_notd ?_ | refine So_not ?_) | (refine q_len ?_; first | refine So_len ?_ | refine So_len0 ?_ | refine So_lenO ?_) | (refine q_st ?_; first | refine So_st (fun Hb hsb => ?_) | refine So_stO (fun Hb hsb => ?_)) | (refine q_ex ?_; first | refine So_ex ?_) | (refine q_sl ?_; first | refine So_slh ?_ | refine So_sll ?_) | (refine q_f ?_; first | refine So_f ?_ | refine So_ff ?_) | (refine q_bi ?_; first | refine So_min ?_ | refine So_max ?_ | refine So_apq (fun cg gg Hb hgg hsb => ?_) | refine So_apr (fun cg gg Hb hgg hsb => ?_) | refine So_ap0 (fun kb Hb hsb => ?_) | refine So_ap1 (fun Hb hsb => ?_)) | (refine q_rt ?_; first | refine Rt1 ?_ | refine Rt2 ?_ | refine Rt3 ?_ | refine Ro1 ?_ | refine Ro2 ?_ | refine Ro3 ?_ | refine RtC ?_) | refine So_box (fun kb Hb hsb => ?_) | refine So_alloc (fun kb Hb hsb => ?_) | refine So_mf ?_ | refine So_bs (fun kb Hb hsb => ?_) | refine So_bd ?_ | fail)
    all_goals first | (exfalso; omega) | skip
    refine Ev_for cells1.length (fun k e h => ∃ B cn cells2 g2 gs2, e 0 = vint n ∧ e 1 = vint b ∧ e 5 = .one co ∧ e 6 = vint i ∧ e 7 = .one cn ∧ e 8 = vint k ∧ HsB B H h (g2 ++ (gs2 ++ (g1 ++ gs1))) ∧ Gr 1 cn (cells2.map one1) g2 ∧ GrL cells2 (((listsS b i).take k).flatMap (extS b)) gs2 ∧ cells2.length = k * b) ?_ ⟨B, cnil, [], [], [], rfl, rfl, rfl, rfl, rfl, rfl, hs, .nil, .nil, by simp⟩
    clear hs
    rintro k e h hk ⟨B, cn, cells2, g2, gs2, e1, e2, e3, e4, e5, e6, hs, hg2, hL2, hc2⟩
    obtain ⟨e0, rfl⟩ := form6 e1 e2 e3 e4 e5 e6
    clear e1 e2 e3 e4 e5 e6
    by_cases hkl : k < cells1.length
    · obtain ⟨o, ho⟩ : ∃ o, (listsS b i)[k]? = some o := ⟨_, List.getElem?_eq_getElem (by omega)⟩
      obtain ⟨x, hx⟩ : ∃ x, cells1[k]? = some x := ⟨_, List.getElem?_eq_getElem (by omega)⟩
      obtain ⟨o', gx, ho', hgx, hix⟩ := hL1.at_ hx
      obtain rfl := uniq ho ho'
      have holen : o.length = i := (lists_mem.1 (List.mem_of_getElem? ho)).1
      repeat' (first | (refine q_ev ?_; first | refine Ev_seq.2 ?_ | refine Ev_block.2 ?_ | refine Ev.scope ?_ | refine Ev_label.2 ?_ | refine Ev_rp ?_ | refine Ev_rs ?_ | refine Ev_rt ?_ | refine Ev_skip.2 ?_ | refine Ev_ret.2 ?_ | refine Ev_exit.2 ?_ | refine Ev_ct ?_ | refine Ev_cf ?_ | refine Ev_cn (fun hg => ?_) (fun hg => ?_) | refine Ev_cd (fun hg => ?_) (fun hg => ?_) | refine Ev_cm (fun hg => ?_) (fun hg => ?_) | refine Ev_cs (fun hg => ?_) (fun hg => ?_)) | (refine q_nt ?_; first | refine So_nilR ?_) | (refine q_nil ?_; first | refine So_nil ?_) | (refine q_g ?_; first | refine So_gy ?_ | refine So_gn ?_ | refine So_gu ?_ | refine So_gTn (fun hg => ?_) (fun hg => ?_) | refine So_gFn (fun hg => ?_) (fun hg => ?_) | refine So_gT (fun hg => ?_) (fun hg => ?_) | refine So_gF (fun hg => ?_) (fun hg => ?_) | refine So_gTm (fun hg => ?_) (fun hg => ?_) | refine So_gFm (fun hg => ?_) (fun hg => ?_) | refine So_gTb (fun hg => ?_) (fun hg => ?_) | refine So_gFb (fun hg => ?_) (fun hg => ?_)) | (refine q_mv ?_; first | refine So_mc ?_ | refine So_ma ?_ | refine So_mv ?_) | (refine q_as ?_; first | refine So_ac ?_ | refine So_aa ?_ | refine So_av ?_) | (refine q_ld ?_; first | refine So_lb ?_ | refine So_la ?_ | refine So_lp ?_ | refine So_lpa ?_ | refine So_lx ?_ | refine So_lxa ?_ | refine So_lxO ?_ | refine So_lxaO ?_ | refine So_ln (fun x hx => ?_) | refine So_lna (fun x hx => ?_) | refine So_lnO (fun x hx => ?_) | refine So_lnaO (fun x hx => ?_)) | (refine q_fa ?_; first | refine So_fa ?_ | refine So_fe ?_) | (refine q_ia ?_; first | refine So_ia ?_ | refine So_iaO ?_) | (refine q_bin ?_; first | refine So_lss ?_ | refine So_leq ?_ | refine So_gtr ?_ | refine So_geq ?_ | refine So_eql ?_ | refine So_neq ?_ | refine So_add ?_ | refine So_sub ?_ | refine So_mul ?_ | refine So_quo ?_ | refine So_rem ?_ | refine So_eqb ?_ | refine So_neb ?_ | refine So_lssw ?_ | refine So_eqlw ?_ | refine So_neqw ?_ | refine So_addw ?_ | refine So_shl ?_ | refine So_shr ?_ | refine So_and1 ?_) | (refine q_pk ?_; first | refine So_pt ?_ | refine So_pf ?_ | refine So_pb ?_) | (refine q_un ?_; first | refine So_notd ?_ | refine So_not ?_) | (refine q_len ?_; first | refine So_len ?_ | refine So_len0 ?_ | refine So_lenO ?_) | (refine q_st ?_; first | refine So_st (fun Hb hsb => ?_) | refine So_stO (fun Hb hsb => ?_)) | (refine q_ex ?_; first | refine So_ex ?_) | (refine q_sl ?_; first | refine So_slh ?_ | refine So_sll ?_) | (refine q_f ?_; first | refine So_f ?_ | refine So_ff ?_) | (refine q_bi ?_; first | refine So_min ?_ | refine So_max ?_ | refine So_apq (fun cg gg Hb hgg hsb => ?_) | refine So_apr (fun cg gg Hb hgg hsb => ?_) | refine So_ap0 (fun kb Hb hsb => ?_) | refine So_ap1 (fun Hb hsb => ?_)) | (refine q_rt ?_; first | refine Rt1 ?_ | refine Rt2 ?_ | refine Rt3 ?_ | refine Ro1 ?_ | refine Ro2 ?_ | refine Ro3 ?_ | refine RtC ?_) | refine So_box (fun kb Hb hsb => ?_) | refine So_alloc (fun kb Hb hsb => ?_) | refine So_mf ?_ | refine So_bs (fun kb Hb hsb => ?_) | refine So_bd ?_ | fail)
      all_goals first | (exfalso; omega) | skip
      refine Ev_for b (fun y e h => ∃ B cn cells2 g2 gs2, e 0 = vint n ∧ e 1 = vint b ∧ e 5 = .one co ∧ e 6 = vint i ∧ e 7 = .one cn ∧ e 8 = vint k ∧ e 9 = vint y ∧ HsB B H h (g2 ++ (gs2 ++ (g1 ++ gs1))) ∧ Gr 1 cn (cells2.map one1) g2 ∧ GrL cells2 (((listsS b i).take k).flatMap (extS b) ++ extS y o) gs2 ∧ cells2.length = k * b + y) ?_ ⟨B, cn, cells2, g2, gs2, rfl, rfl, rfl, rfl, rfl, rfl, rfl, hs, hg2, by simpa [extS] using hL2, by omega⟩
      clear hs hg2 hL2 hc2 gs2 g2 cells2 cn
      rintro y e h hy ⟨B, cn, cells2, g2, gs2, e1, e2, e3, e4, e5, e6, e7, hs, hg2, hL2, hc2⟩
      obtain ⟨e0, rfl⟩ := form7 e1 e2 e3 e4 e5 e6 e7
      clear e1 e2 e3 e4 e5 e6 e7
      have hkb : k * b ≤ 81 * 3 := Nat.mul_le_mul (by omega) hb
      by_cases hyb : y < b
      · repeat' (first | (refine q_ev ?_; first | refine Ev_seq.2 ?_ | refine Ev_block.2 ?_ | refine Ev.scope ?_ | refine Ev_label.2 ?_ | refine Ev_rp ?_ | refine Ev_rs ?_ | refine Ev_rt ?_ | refine Ev_skip.2 ?_ | refine Ev_ret.2 ?_ | refine Ev_exit.2 ?_ | refine Ev_ct ?_ | refine Ev_cf ?_ | refine Ev_cn (fun hg => ?_) (fun hg => ?_) | refine Ev_cd (fun hg => ?_) (fun hg => ?_) | refine Ev_cm (fun hg => ?_) (fun hg => ?_) | refine Ev_cs (fun hg => ?_) (fun hg => ?_)) | (refine q_nt ?_; first | refine So_nilR ?_) | (refine q_nil ?_; first | refine So_nil ?_) | (refine q_g ?_; first | refine So_gy ?_ | refine So_gn ?_ | refine So_gu ?_ | refine So_gTn (fun hg => ?_) (fun hg => ?_) | refine So_gFn (fun hg => ?_) (fun hg => ?_) | refine So_gT (fun hg => ?_) (fun hg => ?_) | refine So_gF (fun hg => ?_) (fun hg => ?_) | refine So_gTm (fun hg => ?_) (fun hg => ?_) | refine So_gFm (fun hg => ?_) (fun hg => ?_) | refine So_gTb (fun hg => ?_) (fun hg => ?_) | refine So_gFb (fun hg => ?_) (fun hg => ?_)) | (refine q_mv ?_; first | refine So_mc ?_ | refine So_ma ?_ | refine So_mv ?_) | (refine q_as ?_; first | refine So_ac ?_ | refine So_aa ?_ | refine So_av ?_) | (refine q_ld ?_; first | refine So_lb ?_ | refine So_la ?_ | refine So_lp ?_ | refine So_lpa ?_ | refine So_lx ?_ | refine So_lxa ?_ | refine So_lxO ?_ | refine So_lxaO ?_ | refine So_lx (ll := cells1) (e := x) (f := one1) ?_ | refine So_ln (fun x hx => ?_) | refine So_lna (fun x hx => ?_) | refine So_lnO (fun x hx => ?_) | refine So_lnaO (fun x hx => ?_)) | (refine q_fa ?_; first | refine So_fa ?_ | refine So_fe ?_) | (refine q_ia ?_; first | refine So_ia ?_ | refine So_iaO ?_) | (refine q_bin ?_; first | refine So_lss ?_ | refine So_leq ?_ | refine So_gtr ?_ | refine So_geq ?_ | refine So_eql ?_ | refine So_neq ?_ | refine So_add ?_ | refine So_sub ?_ | refine So_mul ?_ | refine So_quo ?_ | refine So_rem ?_ | refine So_eqb ?_ | refine So_neb ?_ | refine So_lssw ?_ | refine So_eqlw ?_ | refine So_neqw ?_ | refine So_addw ?_ | refine So_shl ?_ | refine So_shr ?_ | refine So_and1 ?_) | (refine q_pk ?_; first | refine So_pt ?_ | refine So_pf ?_ | refine So_pb ?_) | (refine q_un ?_; first | refine So_notd ?_ | refine So_not ?_) | (refine q_len ?_; first | refine So_len ?_ | refine So_len0 ?_ | refine So_lenO ?_) | (refine q_st ?_; first | refine So_st (fun Hb hsb => ?_) | refine So_stO (fun Hb hsb => ?_)) | (refine q_ex ?_; first | refine So_ex ?_) | (refine q_sl ?_; first | refine So_slh ?_ | refine So_sll ?_) | (refine q_f ?_; first | refine So_f ?_ | refine So_ff ?_) | (refine q_bi ?_; first | refine So_min ?_ | refine So_max ?_ | refine So_apq (fun cg gg Hb hgg hsb => ?_) | refine So_apr (fun cg gg Hb hgg hsb => ?_) | refine So_ap0 (fun kb Hb hsb => ?_) | refine So_ap1 (fun Hb hsb => ?_)) | (refine q_rt ?_; first | refine Rt1 ?_ | refine Rt2 ?_ | refine Rt3 ?_ | refine Ro1 ?_ | refine Ro2 ?_ | refine Ro3 ?_ | refine RtC ?_) | refine So_box (fun kb Hb hsb => ?_) | refine So_alloc (fun kb Hb hsb => ?_) | refine So_mf ?_ | refine So_bs (fun kb Hb hsb => ?_) | refine So_bd ?_ | fail)
        all_goals first | (exfalso; omega) | skip
        refine So_apg (pre := []) (g := []) (rows := []) .nil hs rfl rfl (Gr.rw hgx hs (.right (.right (.right hix)))) (by simp; omega) (fun ca ga Ha hga hsa => ?_)
        rw [List.nil_append] at hga
        repeat' (first | (refine q_ev ?_; first | refine Ev_seq.2 ?_ | refine Ev_block.2 ?_ | refine Ev.scope ?_ | refine Ev_label.2 ?_ | refine Ev_rp ?_ | refine Ev_rs ?_ | refine Ev_rt ?_ | refine Ev_skip.2 ?_ | refine Ev_ret.2 ?_ | refine Ev_exit.2 ?_ | refine Ev_ct ?_ | refine Ev_cf ?_ | refine Ev_cn (fun hg => ?_) (fun hg => ?_) | refine Ev_cd (fun hg => ?_) (fun hg => ?_) | refine Ev_cm (fun hg => ?_) (fun hg => ?_) | refine Ev_cs (fun hg => ?_) (fun hg => ?_)) | (refine q_nt ?_; first | refine So_nilR ?_) | (refine q_nil ?_; first | refine So_nil ?_) | (refine q_g ?_; first | refine So_gy ?_ | refine So_gn ?_ | refine So_gu ?_ | refine So_gTn (fun hg => ?_) (fun hg => ?_) | refine So_gFn (fun hg => ?_) (fun hg => ?_) | refine So_gT (fun hg => ?_) (fun hg => ?_) | refine So_gF (fun hg => ?_) (fun hg => ?_) | refine So_gTm (fun hg => ?_) (fun hg => ?_) | refine So_gFm (fun hg => ?_) (fun hg => ?_) | refine So_gTb (fun hg => ?_) (fun hg => ?_) | refine So_gFb (fun hg => ?_) (fun hg => ?_)) | (refine q_mv ?_; first | refine So_mc ?_ | refine So_ma ?_ | refine So_mv ?_) | (refine q_as ?_; first | refine So_ac ?_ | refine So_aa ?_ | refine So_av ?_) | (refine q_ld ?_; first | refine So_lb ?_ | refine So_la ?_ | refine So_lp ?_ | refine So_lpa ?_ | refine So_lx ?_ | refine So_lxa ?_ | refine So_lxO ?_ | refine So_lxaO ?_ | refine So_ln (fun x hx => ?_) | refine So_lna (fun x hx => ?_) | refine So_lnO (fun x hx => ?_) | refine So_lnaO (fun x hx => ?_)) | (refine q_fa ?_; first | refine So_fa ?_ | refine So_fe ?_) | (refine q_ia ?_; first | refine So_ia ?_ | refine So_iaO ?_) | (refine q_bin ?_; first | refine So_lss ?_ | refine So_leq ?_ | refine So_gtr ?_ | refine So_geq ?_ | refine So_eql ?_ | refine So_neq ?_ | refine So_add ?_ | refine So_sub ?_ | refine So_mul ?_ | refine So_quo ?_ | refine So_rem ?_ | refine So_eqb ?_ | refine So_neb ?_ | refine So_lssw ?_ | refine So_eqlw ?_ | refine So_neqw ?_ | refine So_addw ?_ | refine So_shl ?_ | refine So_shr ?_ | refine So_and1 ?_) | (refine q_pk ?_; first | refine So_pt ?_ | refine So_pf ?_ | refine So_pb ?_) | (refine q_un ?_; first | refine So_notd ?_ | refine So_not ?_) | (refine q_len ?_; first | refine So_len ?_ | refine So_len0 ?_ | refine So_lenO ?_) | (refine q_st ?_; first | refine So_st (fun Hb hsb => ?_) | refine So_stO (fun Hb hsb => ?_)) | (refine q_ex ?_; first | refine So_ex ?_) | (refine q_sl ?_; first | refine So_slh ?_ | refine So_sll ?_) | (refine q_f ?_; first | refine So_f ?_ | refine So_ff ?_) | (refine q_bi ?_; first | refine So_min ?_ | refine So_max ?_ | refine So_apq (fun cg gg Hb hgg hsb => ?_) | refine So_apr (fun cg gg Hb hgg hsb => ?_) | refine So_ap0 (fun kb Hb hsb => ?_) | refine So_ap1 (fun Hb hsb => ?_)) | (refine q_rt ?_; first | refine Rt1 ?_ | refine Rt2 ?_ | refine Rt3 ?_ | refine Ro1 ?_ | refine Ro2 ?_ | refine Ro3 ?_ | refine RtC ?_) | refine So_box (fun kb Hb hsb => ?_) | refine So_alloc (fun kb Hb hsb => ?_) | refine So_mf ?_ | refine So_bs (fun kb Hb hsb => ?_) | refine So_bd ?_ | fail)
        refine So_apq (l := gg ++ (gs2 ++ (g1 ++ gs1))) (fun cd gd Hd hgd hsd => ?_) rfl hg2 (hsb.perm (.cons _ (List.perm_append_comm_assoc _ _ _))) rfl
        repeat' (first | (refine q_ev ?_; first | refine Ev_seq.2 ?_ | refine Ev_block.2 ?_ | refine Ev.scope ?_ | refine Ev_label.2 ?_ | refine Ev_rp ?_ | refine Ev_rs ?_ | refine Ev_rt ?_ | refine Ev_skip.2 ?_ | refine Ev_ret.2 ?_ | refine Ev_exit.2 ?_ | refine Ev_ct ?_ | refine Ev_cf ?_ | refine Ev_cn (fun hg => ?_) (fun hg => ?_) | refine Ev_cd (fun hg => ?_) (fun hg => ?_) | refine Ev_cm (fun hg => ?_) (fun hg => ?_) | refine Ev_cs (fun hg => ?_) (fun hg => ?_)) | (refine q_nt ?_; first | refine So_nilR ?_) | (refine q_nil ?_; first | refine So_nil ?_) | (refine q_g ?_; first | refine So_gy ?_ | refine So_gn ?_ | refine So_gu ?_ | refine So_gTn (fun hg => ?_) (fun hg => ?_) | refine So_gFn (fun hg => ?_) (fun hg => ?_) | refine So_gT (fun hg => ?_) (fun hg => ?_) | refine So_gF (fun hg => ?_) (fun hg => ?_) | refine So_gTm (fun hg => ?_) (fun hg => ?_) | refine So_gFm (fun hg => ?_) (fun hg => ?_) | refine So_gTb (fun hg => ?_) (fun hg => ?_) | refine So_gFb (fun hg => ?_) (fun hg => ?_)) | (refine q_mv ?_; first | refine So_mc ?_ | refine So_ma ?_ | refine So_mv ?_) | (refine q_as ?_; first | refine So_ac ?_ | refine So_aa ?_ | refine So_av ?_) | (refine q_ld ?_; first | refine So_lb ?_ | refine So_la ?_ | refine So_lp ?_ | refine So_lpa ?_ | refine So_lx ?_ | refine So_lxa ?_ | refine So_lxO ?_ | refine So_lxaO ?_ | refine So_ln (fun x hx => ?_) | refine So_lna (fun x hx => ?_) | refine So_lnO (fun x hx => ?_) | refine So_lnaO (fun x hx => ?_)) | (refine q_fa ?_; first | refine So_fa ?_ | refine So_fe ?_) | (refine q_ia ?_; first | refine So_ia ?_ | refine So_iaO ?_) | (refine q_bin ?_; first | refine So_lss ?_ | refine So_leq ?_ | refine So_gtr ?_ | refine So_geq ?_ | refine So_eql ?_ | refine So_neq ?_ | refine So_add ?_ | refine So_sub ?_ | refine So_mul ?_ | refine So_quo ?_ | refine So_rem ?_ | refine So_eqb ?_ | refine So_neb ?_ | refine So_lssw ?_ | refine So_eqlw ?_ | refine So_neqw ?_ | refine So_addw ?_ | refine So_shl ?_ | refine So_shr ?_ | refine So_and1 ?_) | (refine q_pk ?_; first | refine So_pt ?_ | refine So_pf ?_ | refine So_pb ?_) | (refine q_un ?_; first | refine So_notd ?_ | refine So_not ?_) | (refine q_len ?_; first | refine So_len ?_ | refine So_len0 ?_ | refine So_lenO ?_) | (refine q_st ?_; first | refine So_st (fun Hb hsb => ?_) | refine So_stO (fun Hb hsb => ?_)) | (refine q_ex ?_; first | refine So_ex ?_) | (refine q_sl ?_; first | refine So_slh ?_ | refine So_sll ?_) | (refine q_f ?_; first | refine So_f ?_ | refine So_ff ?_) | (refine q_bi ?_; first | refine So_min ?_ | refine So_max ?_ | refine So_apq (fun cg gg Hb hgg hsb => ?_) | refine So_apr (fun cg gg Hb hgg hsb => ?_) | refine So_ap0 (fun kb Hb hsb => ?_) | refine So_ap1 (fun Hb hsb => ?_)) | (refine q_rt ?_; first | refine Rt1 ?_ | refine Rt2 ?_ | refine Rt3 ?_ | refine Ro1 ?_ | refine Ro2 ?_ | refine Ro3 ?_ | refine RtC ?_) | refine So_box (fun kb Hb hsb => ?_) | refine So_alloc (fun kb Hb hsb => ?_) | refine So_mf ?_ | refine So_bs (fun kb Hb hsb => ?_) | refine So_bd ?_ | fail)
        refine ⟨hyb, _, cd, cells2 ++ [cg], gd, gg ++ gs2, rfl, rfl, rfl, rfl, rfl, rfl, vint_s, by rw [List.append_assoc]; exact hsd, by rw [List.map_append]; exact hgd, ?_, by simp; omega⟩
        rw [extS, List.range_succ, List.map_append, ← List.append_assoc]
        exact .snoc hL2 (by rw [List.map_append]; exact hgg)
      · have hye : y = b := by omega
        subst hye
        repeat' (first | (refine q_ev ?_; first | refine Ev_seq.2 ?_ | refine Ev_block.2 ?_ | refine Ev.scope ?_ | refine Ev_label.2 ?_ | refine Ev_rp ?_ | refine Ev_rs ?_ | refine Ev_rt ?_ | refine Ev_skip.2 ?_ | refine Ev_ret.2 ?_ | refine Ev_exit.2 ?_ | refine Ev_ct ?_ | refine Ev_cf ?_ | refine Ev_cn (fun hg => ?_) (fun hg => ?_) | refine Ev_cd (fun hg => ?_) (fun hg => ?_) | refine Ev_cm (fun hg => ?_) (fun hg => ?_) | refine Ev_cs (fun hg => ?_) (fun hg => ?_)) | (refine q_nt ?_; first | refine So_nilR ?_) | (refine q_nil ?_; first | refine So_nil ?_) | (refine q_g ?_; first | refine So_gy ?_ | refine So_gn ?_ | refine So_gu ?_ | refine So_gTn (fun hg => ?_) (fun hg => ?_) | refine So_gFn (fun hg => ?_) (fun hg => ?_) | refine So_gT (fun hg => ?_) (fun hg => ?_) | refine So_gF (fun hg => ?_) (fun hg => ?_) | refine So_gTm (fun hg => ?_) (fun hg => ?_) | refine So_gFm (fun hg => ?_) (fun hg => ?_) | refine So_gTb (fun hg => ?_) (fun hg => ?_) | refine So_gFb (fun hg => ?_) (fun hg => ?_)) | (refine q_mv ?_; first | refine So_mc ?_ | refine So_ma ?_ | refine So_mv ?_) | (refine q_as ?_; first | refine So_ac ?_ | refine So_aa ?_ | refine So_av ?_) | (refine q_ld ?_; first | refine So_lb ?_ | refine So_la ?_ | refine So_lp ?_ | refine So_lpa ?_ | refine So_lx ?_ | refine So_lxa ?_ | refine So_lxO ?_ | refine So_lxaO ?_ | refine So_ln (fun x hx => ?_) | refine So_lna (fun x hx => ?_) | refine So_lnO (fun x hx => ?_) | refine So_lnaO (fun x hx => ?_)) | (refine q_fa ?_; first | refine So_fa ?_ | refine So_fe ?_) | (refine q_ia ?_; first | refine So_ia ?_ | refine So_iaO ?_) | (refine q_bin ?_; first | refine So_lss ?_ | refine So_leq ?_ | refine So_gtr ?_ | refine So_geq ?_ | refine So_eql ?_ | refine So_neq ?_ | refine So_add ?_ | refine So_sub ?_ | refine So_mul ?_ | refine So_quo ?_ | refine So_rem ?_ | refine So_eqb ?_ | refine So_neb ?_ | refine So_lssw ?_ | refine So_eqlw ?_ | refine So_neqw ?_ | refine So_addw ?_ | refine So_shl ?_ | refine So_shr ?_ | refine So_and1 ?_) | (refine q_pk ?_; first | refine So_pt ?_ | refine So_pf ?_ | refine So_pb ?_) | (refine q_un ?_; first | refine So_notd ?_ | refine So_not ?_) | (refine q_len ?_; first | refine So_len ?_ | refine So_len0 ?_ | refine So_lenO ?_) | (refine q_st ?_; first | refine So_st (fun Hb hsb => ?_) | refine So_stO (fun Hb hsb => ?_)) | (refine q_ex ?_; first | refine So_ex ?_) | (refine q_sl ?_; first | refine So_slh ?_ | refine So_sll ?_) | (refine q_f ?_; first | refine So_f ?_ | refine So_ff ?_) | (refine q_bi ?_; first | refine So_min ?_ | refine So_max ?_ | refine So_apq (fun cg gg Hb hgg hsb => ?_) | refine So_apr (fun cg gg Hb hgg hsb => ?_) | refine So_ap0 (fun kb Hb hsb => ?_) | refine So_ap1 (fun Hb hsb => ?_)) | (refine q_rt ?_; first | refine Rt1 ?_ | refine Rt2 ?_ | refine Rt3 ?_ | refine Ro1 ?_ | refine Ro2 ?_ | refine Ro3 ?_ | refine RtC ?_) | refine So_box (fun kb Hb hsb => ?_) | refine So_alloc (fun kb Hb hsb => ?_) | refine So_mf ?_ | refine So_bs (fun kb Hb hsb => ?_) | refine So_bd ?_ | fail)
        all_goals first | (exfalso; omega) | skip
        refine ⟨hkl, B, cn, cells2, g2, gs2, rfl, rfl, rfl, rfl, rfl, vint_s, hs, hg2, ?_, by rw [hc2, Nat.succ_mul]⟩
        rw [List.take_add_one, ho, List.flatMap_append]
        simpa using hL2
    · have hke : k = (listsS b i).length := by omega
      repeat' (first | (refine q_ev ?_; first | refine Ev_seq.2 ?_ | refine Ev_block.2 ?_ | refine Ev.scope ?_ | refine Ev_label.2 ?_ | refine Ev_rp ?_ | refine Ev_rs ?_ | refine Ev_rt ?_ | refine Ev_skip.2 ?_ | refine Ev_ret.2 ?_ | refine Ev_exit.2 ?_ | refine Ev_ct ?_ | refine Ev_cf ?_ | refine Ev_cn (fun hg => ?_) (fun hg => ?_) | refine Ev_cd (fun hg => ?_) (fun hg => ?_) | refine Ev_cm (fun hg => ?_) (fun hg => ?_) | refine Ev_cs (fun hg => ?_) (fun hg => ?_)) | (refine q_nt ?_; first | refine So_nilR ?_) | (refine q_nil ?_; first | refine So_nil ?_) | (refine q_g ?_; first | refine So_gy ?_ | refine So_gn ?_ | refine So_gu ?_ | refine So_gTn (fun hg => ?_) (fun hg => ?_) | refine So_gFn (fun hg => ?_) (fun hg => ?_) | refine So_gT (fun hg => ?_) (fun hg => ?_) | refine So_gF (fun hg => ?_) (fun hg => ?_) | refine So_gTm (fun hg => ?_) (fun hg => ?_) | refine So_gFm (fun hg => ?_) (fun hg => ?_) | refine So_gTb (fun hg => ?_) (fun hg => ?_) | refine So_gFb (fun hg => ?_) (fun hg => ?_)) | (refine q_mv ?_; first | refine So_mc ?_ | refine So_ma ?_ | refine So_mv ?_) | (refine q_as ?_; first | refine So_ac ?_ | refine So_aa ?_ | refine So_av ?_) | (refine q_ld ?_; first | refine So_lb ?_ | refine So_la ?_ | refine So_lp ?_ | refine So_lpa ?_ | refine So_lx ?_ | refine So_lxa ?_ | refine So_lxO ?_ | refine So_lxaO ?_ | refine So_ln (fun x hx => ?_) | refine So_lna (fun x hx => ?_) | refine So_lnO (fun x hx => ?_) | refine So_lnaO (fun x hx => ?_)) | (refine q_fa ?_; first | refine So_fa ?_ | refine So_fe ?_) | (refine q_ia ?_; first | refine So_ia ?_ | refine So_iaO ?_) | (refine q_bin ?_; first | refine So_lss ?_ | refine So_leq ?_ | refine So_gtr ?_ | refine So_geq ?_ | refine So_eql ?_ | refine So_neq ?_ | refine So_add ?_ | refine So_sub ?_ | refine So_mul ?_ | refine So_quo ?_ | refine So_rem ?_ | refine So_eqb ?_ | refine So_neb ?_ | refine So_lssw ?_ | refine So_eqlw ?_ | refine So_neqw ?_ | refine So_addw ?_ | refine So_shl ?_ | refine So_shr ?_ | refine So_and1 ?_) | (refine q_pk ?_; first | refine So_pt ?_ | refine So_pf ?_ | refine So_pb ?_) | (refine q_un ?_; first | refine So_notd ?_ | refine So_not ?_) | (refine q_len ?_; first | refine So_len ?_ | refine So_len0 ?_ | refine So_lenO ?_) | (refine q_st ?_; first | refine So_st (fun Hb hsb => ?_) | refine So_stO (fun Hb hsb => ?_)) | (refine q_ex ?_; first | refine So_ex ?_) | (refine q_sl ?_; first | refine So_slh ?_ | refine So_sll ?_) | (refine q_f ?_; first | refine So_f ?_ | refine So_ff ?_) | (refine q_bi ?_; first | refine So_min ?_ | refine So_max ?_ | refine So_apq (fun cg gg Hb hgg hsb => ?_) | refine So_apr (fun cg gg Hb hgg hsb => ?_) | refine So_ap0 (fun kb Hb hsb => ?_) | refine So_ap1 (fun Hb hsb => ?_)) | (refine q_rt ?_; first | refine Rt1 ?_ | refine Rt2 ?_ | refine Rt3 ?_ | refine Ro1 ?_ | refine Ro2 ?_ | refine Ro3 ?_ | refine RtC ?_) | refine So_box (fun kb Hb hsb => ?_) | refine So_alloc (fun kb Hb hsb => ?_) | refine So_mf ?_ | refine So_bs (fun kb Hb hsb => ?_) | refine So_bd ?_ | fail)
      all_goals first | (exfalso; omega) | skip
      refine ⟨hin, B, cn, cells2, g2, gs2, rfl, rfl, rfl, vint_s, hs.sub (.append (.refl _) (List.sublist_append_left _ _)), hg2, ?_⟩
      rw [hke, List.take_length] at hL2
      exact hL2
  · have hie : i = n := by omega
    subst hie
    repeat' (first | (refine q_ev ?_; first | refine Ev_seq.2 ?_ | refine Ev_block.2 ?_ | refine Ev.scope ?_ | refine Ev_label.2 ?_ | refine Ev_rp ?_ | refine Ev_rs ?_ | refine Ev_rt ?_ | refine Ev_skip.2 ?_ | refine Ev_ret.2 ?_ | refine Ev_exit.2 ?_ | refine Ev_ct ?_ | refine Ev_cf ?_ | refine Ev_cn (fun hg => ?_) (fun hg => ?_) | refine Ev_cd (fun hg => ?_) (fun hg => ?_) | refine Ev_cm (fun hg => ?_) (fun hg => ?_) | refine Ev_cs (fun hg => ?_) (fun hg => ?_)) | (refine q_nt ?_; first | refine So_nilR ?_) | (refine q_nil ?_; first | refine So_nil ?_) | (refine q_g ?_; first | refine So_gy ?_ | refine So_gn ?_ | refine So_gu ?_ | refine So_gTn (fun hg => ?_) (fun hg => ?_) | refine So_gFn (fun hg => ?_) (fun hg => ?_) | refine So_gT (fun hg => ?_) (fun hg => ?_) | refine So_gF (fun hg => ?_) (fun hg => ?_) | refine So_gTm (fun hg => ?_) (fun hg => ?_) | refine So_gFm (fun hg => ?_) (fun hg => ?_) | refine So_gTb (fun hg => ?_) (fun hg => ?_) | refine So_gFb (fun hg => ?_) (fun hg => ?_)) | (refine q_mv ?_; first | refine So_mc ?_ | refine So_ma ?_ | refine So_mv ?_) | (refine q_as ?_; first | refine So_ac ?_ | refine So_aa ?_ | refine So_av ?_) | (refine q_ld ?_; first | refine So_lb ?_ | refine So_la ?_ | refine So_lp ?_ | refine So_lpa ?_ | refine So_lx ?_ | refine So_lxa ?_ | refine So_lxO ?_ | refine So_lxaO ?_ | refine So_ln (fun x hx => ?_) | refine So_lna (fun x hx => ?_) | refine So_lnO (fun x hx => ?_) | refine So_lnaO (fun x hx => ?_)) | (refine q_fa ?_; first | refine So_fa ?_ | refine So_fe ?_) | (refine q_ia ?_; first | refine So_ia ?_ | refine So_iaO ?_) | (refine q_bin ?_; first | refine So_lss ?_ | refine So_leq ?_ | refine So_gtr ?_ | refine So_geq ?_ | refine So_eql ?_ | refine So_neq ?_ | refine So_add ?_ | refine So_sub ?_ | refine So_mul ?_ | refine So_quo ?_ | refine So_rem ?_ | refine So_eqb ?_ | refine So_neb ?_ | refine So_lssw ?_ | refine So_eqlw ?_ | refine So_neqw ?_ | refine So_addw ?_ | refine So_shl ?_ | refine So_shr ?_ | refine So_and1 ?_) | (refine q_pk ?_; first | refine So_pt ?_ | refine So_pf ?_ | refine So_pb ?_) | (refine q_un ?_; first | refine So_notd ?_ | refine So_not ?_) | (refine q_len ?_; first | refine So_len ?_ | refine So_len0 ?_ | refine So_lenO ?_) | (refine q_st ?_; first | refine So_st (fun Hb hsb => ?_) | refine So_stO (fun Hb hsb => ?_)) | (refine q_ex ?_; first | refine So_ex ?_) | (refine q_sl ?_; first | refine So_slh ?_ | refine So_sll ?_) | (refine q_f ?_; first | refine So_f ?_ | refine So_ff ?_) | (refine q_bi ?_; first | refine So_min ?_ | refine So_max ?_ | refine So_apq (fun cg gg Hb hgg hsb => ?_) | refine So_apr (fun cg gg Hb hgg hsb => ?_) | refine So_ap0 (fun kb Hb hsb => ?_) | refine So_ap1 (fun Hb hsb => ?_)) | (refine q_rt ?_; first | refine Rt1 ?_ | refine Rt2 ?_ | refine Rt3 ?_ | refine Ro1 ?_ | refine Ro2 ?_ | refine Ro3 ?_ | refine RtC ?_) | refine So_box (fun kb Hb hsb => ?_) | refine So_alloc (fun kb Hb hsb => ?_) | refine So_mf ?_ | refine So_bs (fun kb Hb hsb => ?_) | refine So_bd ?_ | fail)
    all_goals first | (exfalso; omega) | skip
    obtain ⟨c', cs', z1, z2, z3⟩ := grl_done hg1 hL1 hs (fun p hp => List.mem_append_left _ hp) (fun p hp => List.mem_append_right _ hp)
    exact Rt1 (t := 4) (v := .one c') ⟨c', cs', rfl, z2, z3⟩ (hs := hs) (hv := z1)
end Go.AM.Car
