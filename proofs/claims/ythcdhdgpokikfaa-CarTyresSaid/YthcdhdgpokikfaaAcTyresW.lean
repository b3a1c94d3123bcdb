/- The best plan of tyres: what the code computes. -/
import Derived.Test.YthcdhdgpokikfaaAcUses
import Derived.Test.YthcdhdgpokikfaaAmM1
import Derived.Test.YthcdhdgpokikfaaAcFirst
import Derived.Test.YthcdhdgpokikfaaAcPoss
open Go.Proofs
namespace Go.AM.Car
set_option maxRecDepth 10000
set_option maxHeartbeats 8000000

/-- The compounds that can be used for a set, and their losses; the first i of them. -/
def optsTo (cs : List Compound) (ls : List (List Stretch)) (sets : List Int) (j : Int) : Nat → List Opt
  | 0 => []
  | i + 1 => optsTo cs ls sets j i ++ (match cs[i]? with
    | some c => match usedS c j ls sets 0 0 with
      | some u => [⟨i, u⟩]
      | none => []
    | none => [])
def lessO (a b : Opt) : Bool := decide (a.loss < b.loss)
/-- The cheapest compounds of the first sets, and the sum of their losses. -/
def planTo (cs : List Compound) (ls : List (List Stretch)) (sets : List Int) : Nat → Option (List Int × Int)
  | 0 => some ([], 0)
  | j + 1 => match planTo cs ls sets j, optsTo cs ls sets j cs.length with
    | some (p, s), x :: l => some (p ++ [(firstS lessO x l).comp], s + (firstS lessO x l).loss)
    | _, _ => none
abbrev Best := Option (List Int × List Int × Int)
def stepS (cs : List Compound) (ls : List (List Stretch)) (s : Best) (p : List Int × Int) : Best := match planTo cs ls p.1 p.2.toNat with
  | none => s
  | some (comps, loss) => match s with
    | none => some (p.1, comps, loss)
    | some (bs, bc, bl) => if loss < bl ∨ (loss = bl ∧ p.2 < bc.length) then some (p.1, comps, loss) else some (bs, bc, bl)
def TyresS (cs : List Compound) (ls : List (List Stretch)) (al : Int) : Best := (partsFrom al ls.length [] 0).foldl (stepS cs ls) none

theorem less_cv (x y : Opt) (H : AH) : Cv Try.prog 56 [.agg (optC x), .agg (optC y)] H (Cl (· = vbool (lessO x y))) := by
  refine Cv_of Try.func56 rfl rfl rfl (fun H1 hs => ?_)
  repeat' (first | (refine q_ev ?_; first | refine Ev_seq.2 ?_ | refine Ev_block.2 ?_ | refine Ev.scope ?_ | refine Ev_label.2 ?_ | refine Ev_rp ?_ | refine Ev_rs ?_ | refine Ev_rt ?_ | refine Ev_skip.2 ?_ | refine Ev_ret.2 ?_ | refine Ev_exit.2 ?_ | refine Ev_ct ?_ | refine Ev_cf ?_ | refine Ev_cn (fun hg => ?_) (fun hg => ?_) | refine Ev_cd (fun hg => ?_) (fun hg => ?_) | refine Ev_cm (fun hg => ?_) (fun hg => ?_) | refine Ev_cs (fun hg => ?_) (fun hg => ?_)) | (refine q_nt ?_; first | refine So_nilR ?_) | (refine q_nil ?_; first | refine So_nil ?_) | (refine q_g ?_; first | refine So_gy ?_ | refine So_gn ?_ | refine So_gu ?_ | refine So_gTn (fun hg => ?_) (fun hg => ?_) | refine So_gFn (fun hg => ?_) (fun hg => ?_) | refine So_gT (fun hg => ?_) (fun hg => ?_) | refine So_gF (fun hg => ?_) (fun hg => ?_) | refine So_gTm (fun hg => ?_) (fun hg => ?_) | refine So_gFm (fun hg => ?_) (fun hg => ?_) | refine So_gTb (fun hg => ?_) (fun hg => ?_) | refine So_gFb (fun hg => ?_) (fun hg => ?_)) | (refine q_mv ?_; first | refine So_mc ?_ | refine So_ma ?_ | refine So_mv ?_) | (refine q_as ?_; first | refine So_ac ?_ | refine So_aa ?_ | refine So_av ?_) | (refine q_ld ?_; first | refine So_lb ?_ | refine So_la ?_ | refine So_lp ?_ | refine So_lpa ?_ | refine So_lx ?_ | refine So_lxa ?_ | refine So_lxO ?_ | refine So_lxaO ?_ | refine So_ln (fun x hx => ?_) | refine So_lna (fun x hx => ?_) | refine So_lnO (fun x hx => ?_) | refine So_lnaO (fun x hx => ?_)) | (refine q_fa ?_; first | refine So_fa ?_ | refine So_fe ?_) | (refine q_ia ?_; first | refine So_ia ?_ | refine So_iaO ?_) | (refine q_bin ?_; first | refine So_lss ?_ | refine So_leq ?_ | refine So_gtr ?_ | refine So_geq ?_ | refine So_eql ?_ | refine So_neq ?_ | refine So_add ?_ | refine So_sub ?_ | refine So_mul ?_ | refine So_quo ?_ | refine So_rem ?_ | refine So_eqb ?_ | refine So_neb ?_ | refine So_lssw ?_ | refine So_eqlw ?_ | refine So_neqw ?_ | refine So_addw ?_ | refine So_shl ?_ | refine So_shr ?_ | refine So_and1 ?_) | (refine q_pk ?_; first | refine So_pt ?_ | refine So_pf ?_ | refine So_pb ?_) | (refine q_un ?_; first | refine So_notd ?_ | refine So_not ?_) | (refine q_len ?_; first | refine So_len ?_ | refine So_len0 ?_ | refine So_lenO ?_) | (refine q_st ?_; first | refine So_st (fun Hb hsb => ?_) | refine So_stO (fun Hb hsb => ?_)) | (refine q_ex ?_; first | refine So_ex ?_) | (refine q_sl ?_; first | refine So_slh ?_ | refine So_sll ?_) | (refine q_f ?_; first | refine So_f ?_ | refine So_ff ?_) | (refine q_bi ?_; first | refine So_min ?_ | refine So_max ?_ | refine So_apq (fun cg gg Hb hgg hsb => ?_) | refine So_apr (fun cg gg Hb hgg hsb => ?_) | refine So_ap0 (fun kb Hb hsb => ?_) | refine So_ap1 (fun Hb hsb => ?_)) | (refine q_rt ?_; first | refine Rt1 ?_ | refine Rt2 ?_ | refine Rt3 ?_ | refine Ro1 ?_ | refine Ro2 ?_ | refine Ro3 ?_ | refine RtC ?_) | refine So_box (fun kb Hb hsb => ?_) | refine So_alloc (fun kb Hb hsb => ?_) | refine So_mf ?_ | refine So_bs (fun kb Hb hsb => ?_) | refine So_bd ?_ | fail)
  rfl

theorem opts_loss {cs : List Compound} {ls : List (List Stretch)} {sets : List Int} {j : Int} {b : Int} (h : ∀ c ∈ cs, ∀ u, usedS c j ls sets 0 0 = some u → 0 ≤ u ∧ u ≤ b) : ∀ {i : Nat}, ∀ o ∈ optsTo cs ls sets j i, 0 ≤ o.loss ∧ o.loss ≤ b := by
  intro i
  induction i with
  | zero => intro o ho; cases ho
  | succ i ih =>
    intro o ho
    rw [optsTo] at ho
    rcases List.mem_append.1 ho with ho | ho
    · exact ih o ho
    · cases hc : cs[i]? with
      | none => rw [hc] at ho; cases ho
      | some c =>
        rw [hc] at ho
        simp only at ho
        cases hu : usedS c j ls sets 0 0 with
        | none => rw [hu] at ho; cases ho
        | some u => rw [hu] at ho; simp only [List.mem_singleton] at ho; subst ho; exact h c (List.mem_of_getElem? hc) u hu
theorem opts_len {cs : List Compound} {ls : List (List Stretch)} {sets : List Int} {j : Int} : ∀ {i : Nat}, (optsTo cs ls sets j i).length ≤ i := by
  intro i
  induction i with
  | zero => simp [optsTo]
  | succ i ih =>
    rw [optsTo, List.length_append]
    have : (match cs[i]? with
      | some c => match usedS c j ls sets 0 0 with
        | some u => [(⟨i, u⟩ : Opt)]
        | none => []
      | none => []).length ≤ 1 := by
      split
      · split <;> simp
      · simp
    omega
theorem plan_len {cs : List Compound} {ls : List (List Stretch)} {sets : List Int} : ∀ {n : Nat} {p : List Int} {s : Int}, planTo cs ls sets n = some (p, s) → p.length = n := by
  intro n
  induction n with
  | zero => intro p s h; rw [planTo] at h; injection h with h; injection h with h1 h2; subst h1; rfl
  | succ n ih =>
    intro p s h
    rw [planTo] at h
    split at h
    · rename_i h1 _
      injection h with h; injection h with h3 h4; subst h3
      rw [List.length_append, ih h1]; rfl
    · cases h
theorem plan_none {cs : List Compound} {ls : List (List Stretch)} {sets : List Int} {j : Nat} (h : planTo cs ls sets j = none) : ∀ {n : Nat}, j ≤ n → planTo cs ls sets n = none := by
  intro n
  induction n with
  | zero => intro hn; rw [show j = 0 by omega] at h; exact h
  | succ n ih =>
    intro hn
    by_cases e : j = n + 1
    · rw [← e]; exact h
    · rw [planTo, ih (by omega)]
theorem plan_le {cs : List Compound} {ls : List (List Stretch)} {sets : List Int} {b : Int} (hb : ∀ c ∈ cs, ∀ j u, usedS c j ls sets 0 0 = some u → 0 ≤ u ∧ u ≤ b) {j : Nat} {p : List Int} {s : Int} (h : planTo cs ls sets j = some (p, s)) : ∀ {n : Nat}, j ≤ n → ∀ q t, planTo cs ls sets n = some (q, t) → s ≤ t := by
  intro n
  induction n with
  | zero => intro hn q t ht; rw [show j = 0 by omega] at h; rw [ht] at h; injection h with h; injection h with h1 h2; omega
  | succ n ih =>
    intro hn q t ht
    by_cases e : j = n + 1
    · rw [e] at h; rw [ht] at h; injection h with h; injection h with h1 h2; omega
    · rw [planTo] at ht
      split at ht
      · rename_i h1 h2
        injection ht with ht; injection ht with h3 h4
        have := ih (by omega) _ _ h1
        have h5 := opts_loss (fun c hc u => hb c hc _ u) _ (by rw [h2]; exact firstS_mem (lt := lessO))
        omega
      · cases ht

abbrev bestOf (f : Bool) (bs bc : List Int) (bl : Int) : Best := if f then some (bs, bc, bl) else none
theorem step_none {cs : List Compound} {ls : List (List Stretch)} {xs : List Int} {n : Nat} {s : Best} (h : planTo cs ls xs n = none) : stepS cs ls s (xs, (n : Int)) = s := by
  unfold stepS
  simp only [Int.toNat_natCast, h]
theorem step_new {cs : List Compound} {ls : List (List Stretch)} {xs p bs bc : List Int} {n : Nat} {f : Bool} {s bl : Int} (h : planTo cs ls xs n = some (p, s)) (hf : f = true → s < bl ∨ s = bl ∧ (n : Int) < bc.length) : stepS cs ls (bestOf f bs bc bl) (xs, (n : Int)) = some (xs, p, s) := by
  unfold stepS
  simp only [Int.toNat_natCast, h]
  cases f with
  | false => rfl
  | true => simp only [bestOf, if_true]; rw [if_pos (hf rfl)]
theorem step_old {cs : List Compound} {ls : List (List Stretch)} {xs p bs bc : List Int} {n : Nat} {f : Bool} {s bl : Int} (h : planTo cs ls xs n = some (p, s)) (hf : f = true) (hn : ¬(s < bl ∨ s = bl ∧ (n : Int) < bc.length)) : stepS cs ls (bestOf f bs bc bl) (xs, (n : Int)) = bestOf f bs bc bl := by
  unfold stepS
  simp only [Int.toNat_natCast, h]
  subst hf
  simp only [bestOf, if_true]; rw [if_neg hn]
theorem step_cut {cs : List Compound} {ls : List (List Stretch)} {xs p bs bc : List Int} {j n : Nat} {f : Bool} {s bl b : Int} (hb : ∀ c ∈ cs, ∀ j u, usedS c j ls xs 0 0 = some u → 0 ≤ u ∧ u ≤ b) (h : planTo cs ls xs j = some (p, s)) (hj : j ≤ n) (hf : f = true) (hn : bl < s) : stepS cs ls (bestOf f bs bc bl) (xs, (n : Int)) = bestOf f bs bc bl := by
  cases hq : planTo cs ls xs n with
  | none => exact step_none hq
  | some q =>
    obtain ⟨q, t⟩ := q
    have := plan_le hb h hj q t hq
    exact step_old hq hf (by omega)
/-- What Tyres holds while it ranges over the partitions. -/
abbrev baseT (kl u4 u2 kf kb k6 k4 k3 : Nat) (r : LoopRec) (al : Int) (L : Nat) (la lb : Cell) (f : Bool) (c1 c2 : Cell) (bl : Int) : List (Nat × Blk) :=
  [(kl, .loop r), (u4, .box [cint al]), (u2, .box [cint L]), (kf, .box [cbool f]), (kb, .box [c1, c2, cint bl]), (k6, .box [cnil, cnil, cint 0]), (k4, .box [lb]), (k3, .box [la])]
def StT (kl u4 u2 kf kb k6 k4 k3 : Nat) (r : LoopRec) (al : Int) (L : Nat) (la lb : Cell) (s : Best) (l : List (Nat × Blk)) : Prop :=
  ∃ f c1 c2 bl g1 g2, ∃ bs bc : List Int, Gr 1 c1 (bs.map intC) g1 ∧ Gr 1 c2 (bc.map intC) g2 ∧ 0 ≤ bl ∧ bl ≤ 1000000000 ∧ bc.length ≤ 8 ∧ s = bestOf f bs bc bl ∧ l = g2 ++ (g1 ++ baseT kl u4 u2 kf kb k6 k4 k3 r al L la lb f c1 c2 bl)
theorem perm5 {α : Type} {g o g2 g1 b : List α} : (g ++ (o ++ (g2 ++ (g1 ++ b)))).Perm (b ++ (g ++ (o ++ (g2 ++ g1)))) := by
  simp only [← List.append_assoc]
  refine List.perm_append_comm.trans ?_
  simp
theorem perm4 {α : Type} {a b c d : List α} : (a ++ (b ++ (c ++ d))).Perm (d ++ (a ++ (c ++ b))) := by
  have h1 : (b ++ (c ++ d)).Perm (d ++ (c ++ b)) := by
    have e : d ++ (c ++ b) = (d ++ c) ++ b := by simp
    rw [e]
    exact List.perm_append_comm.trans (List.Perm.append_right b List.perm_append_comm)
  exact (List.Perm.append_left a h1).trans (List.perm_append_comm_assoc a d (c ++ b))
end Go.AM.Car
