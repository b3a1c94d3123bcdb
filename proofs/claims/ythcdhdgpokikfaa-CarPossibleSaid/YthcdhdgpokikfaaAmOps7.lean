/- Every operation, the rest. -/
import Derived.Test.YthcdhdgpokikfaaAmOps6
namespace Go.AM
section
variable {P : Program} {V : View} {env : Env} {a : Act} {o : Oper} {v : AV} {d : Option (Nat × Blk)}

theorem op_fieldAddr {s : TypeId} {x : Operand} {f : Nat} (H : HR V) (R : ER V env a.tmps) (h : (match P.underlying s, (evo env x).cell with
    | some (.struct fields), some p => match fields[f]? with
      | some fl => match szOf P fl.type with
        | some (_ + 1) => match p with
          | .bp h off => some (AV.one (.bp h (off + fl.offset)), none)
          | .ep a sz i off => some (AV.one (.ep a sz i (off + fl.offset)), none)
          | _ => none
        | _ => none
      | none => none
    | _, _ => none) = some (v, d)) : OpOk P V (do pure (.value (← Instr.fieldAt s (a.eval x) f))) v d := by
  split at h
  · rename_i fields p hu hp
    have hc := cell_sound (evo_sound R x) hp
    split at h
    · rename_i fl hf
      split at h
      · rename_i n hs
        generalize hvx : a.eval x = vx at hc ⊢
        split at h
        · rename_i hh off
          injection h with h
          injection h with h1 h2
          subst h1 h2
          cases hc with
          | ro hr => cases hr
          | @bp _ _ b g1 g3 =>
            refine .reads H (v' := .pointer (some ⟨b, off + fl.offset, none⟩)) ?_ (.one (.bp g1 g3))
            have ha := add_spot (a := ⟨b, off, none⟩) rfl fl.offset
            simp [Instr.fieldAt, Instr.sureAddr, run_underlying hu, hf, fieldPlace, run_size hs, ha]
        · rename_i q sz i off
          injection h with h
          injection h with h1 h2
          subst h1 h2
          cases hc with
          | ro hr => cases hr
          | @ep _ _ _ _ A n' cap g1 g2 =>
            refine .reads H (v' := .pointer (some ⟨A.block, A.off + (i * sz + (off + fl.offset)), none⟩)) ?_ (.one (.ep g1 g2))
            have ha := add_spot (a := ⟨A.block, A.off + (i * sz + off), none⟩) rfl fl.offset
            have he : A.off + (i * sz + off) + fl.offset = A.off + (i * sz + (off + fl.offset)) := by omega
            simp only [he] at ha
            simp [Instr.fieldAt, Instr.sureAddr, run_underlying hu, hf, fieldPlace, run_size hs, ha]
        · cases h
      · cases h
    · cases h
  · cases h

theorem csr_mid {cs : List Cell} {us : Array Value} (h : CSR V cs us) {o s : Nat} (hle : o + s ≤ cs.length) : CSR V ((cs.drop o).take s) (us.extract o (o + s)) := by
  have hl := h.len
  refine ⟨by simp; omega, fun i c hi => ?_⟩
  rw [List.getElem?_take] at hi
  split at hi
  · rename_i hlt
    rw [List.getElem?_drop] at hi
    have := h.get _ _ hi
    have e : (us.extract o (o + s)).getD i undef = us.getD (o + i) undef := by
      simp only [Array.getD_eq_getD_getElem?, Array.getElem?_extract]
      rw [if_pos (by omega)]
    rw [e]; exact this
  · cases hi

theorem run_part {t : TypeId} {cs : List Cell} {us : Array Value} (h : CSR V cs us) {off : Nat} {r : AV} (hr : (match aggB P t, szOf P t with
        | some true, some s => if off + s ≤ cs.length then some (AV.agg ((cs.drop off).take s)) else none
        | some false, _ => (cs[off]?).map fun c => AV.one c
        | _, _ => none) = some r) : ∃ v', (part t us off).run P V.w = .ok v' V.w ∧ VR V r v' := by
  split at hr
  · rename_i s ha hs
    split at hr
    · rename_i hle
      injection hr with hr
      subst hr
      have := csr_mid h hle
      exact ⟨.agg (us.extract off (off + s)), by simp [part, run_isAgg ha, run_size hs], .agg this.len this.get⟩
    · cases hr
  · rename_i ha
    obtain ⟨c, hc, rfl⟩ := Option.map_eq_some_iff.1 hr
    have hl := h.len
    have hlt := (List.getElem?_eq_some_iff.1 hc).1
    have hg := h.get _ _ hc
    have hx := getD_lt (C := us) (i := off) (by omega)
    generalize us.getD off undef = u at hg hx
    exact ⟨u, by simp [part, run_isAgg ha, hx], .one hg⟩
  · cases hr

theorem op_field {t : TypeId} {x : Operand} {f : Nat} (H : HR V) (R : ER V env a.tmps) (h : (match P.underlying t, evo env x with
    | some (.struct fields), .agg cs => match fields[f]? with
      | some fl => match aggB P fl.type, szOf P fl.type with
        | some true, some s => if fl.offset + s ≤ cs.length then some (AV.agg ((cs.drop fl.offset).take s), none) else none
        | some false, _ => (cs[fl.offset]?).map fun c => (AV.one c, none)
        | _, _ => none
      | none => none
    | _, _ => none) = some (v, d)) : OpOk P V (do pure (.value (← Instr.field t (a.eval x) f))) v d := by
  split at h
  · rename_i fields cs hu hx
    have hv := evo_sound R x
    rw [hx] at hv
    generalize hvx : a.eval x = vx at hv ⊢
    cases hv with
    | @agg _ us h1 h2 =>
      split at h
      · rename_i fl hf
        have hd : d = none ∧ (match aggB P fl.type, szOf P fl.type with
          | some true, some s => if fl.offset + s ≤ cs.length then some (AV.agg ((cs.drop fl.offset).take s)) else none
          | some false, _ => (cs[fl.offset]?).map fun c => AV.one c
          | _, _ => none) = some v := by
          revert h
          split
          · split
            · intro h; injection h with h; injection h with h1 h2; exact ⟨h2.symm, by rw [h1]⟩
            · intro h; cases h
          · intro h
            obtain ⟨c, hc, he⟩ := Option.map_eq_some_iff.1 h
            injection he with h1 h2
            exact ⟨h2.symm, by rw [hc, ← h1]; rfl⟩
          · intro h; cases h
        obtain ⟨rfl, hr⟩ := hd
        obtain ⟨v', hrun, hvr⟩ := run_part (P := P) ⟨h1, h2⟩ hr
        refine .reads H ?_ hvr
        simp [Instr.field, run_underlying hu, hf, asAgg, hrun]
      · cases h
  · cases h

theorem op_index {t : TypeId} {x ix : Operand} (H : HR V) (R : ER V env a.tmps) (ho : o.op = .index t x ix) (h : (match P.underlying t, evo env x, intOf? (evo env ix) with
    | some (.array n e), .agg cs, some i => if 0 ≤ i ∧ i < n then
        match aggB P e, szOf P e with
        | some true, some s => if i.toNat * s + s ≤ cs.length then some (AV.agg ((cs.drop (i.toNat * s)).take s), none) else none
        | some false, some s => (cs[i.toNat * s]?).map fun c => (AV.one c, none)
        | _, _ => none
      else none
    | _, _, _ => plainOp P env o) = some (v, d)) : OpOk P V (execOp a.eval o) v d := by
  split at h
  · rename_i n e cs i hu hx hi
    obtain ⟨k, hk⟩ := int_sound (evo_sound R ix) hi
    have hv := evo_sound R x
    rw [hx] at hv
    split at h
    · rename_i hb
      have he : execOp a.eval o = (do pure (.value (← Instr.index t (a.eval x) (a.eval ix)))) := by unfold execOp; rw [ho]
      rw [he]
      generalize hvx : a.eval x = vx at hv ⊢
      cases hv with
      | @agg _ us h1 h2 =>
        have hsd : ∃ s, szOf P e = some s ∧ d = none ∧ (match aggB P e, szOf P e with
            | some true, some s' => if i.toNat * s + s' ≤ cs.length then some (AV.agg ((cs.drop (i.toNat * s)).take s')) else none
            | some false, _ => (cs[i.toNat * s]?).map fun c => AV.one c
            | _, _ => none) = some v := by
          split at h
          · rename_i s ha hs
            split at h
            · rename_i hle
              injection h with h; injection h with h1 h2
              exact ⟨s, hs, h2.symm, by rw [ha, hs]; simp only [if_pos hle, h1]⟩
            · cases h
          · rename_i s ha hs
            obtain ⟨c, hc, he⟩ := Option.map_eq_some_iff.1 h
            injection he with h1 h2
            exact ⟨s, hs, h2.symm, by rw [ha]; simp only [hc, ← h1]; rfl⟩
          · cases h
        obtain ⟨s, hs, rfl, hr⟩ := hsd
        obtain ⟨v', hrun, hvr⟩ := run_part (P := P) ⟨h1, h2⟩ hr
        refine .reads H ?_ hvr
        rw [hk]
        simp [Instr.index, asIntOf, run_underlying hu, hb.1, hb.2, run_size hs, hrun]
    · cases h
  · exact plainOp_sound H R (by rw [ho]; intro _ _ h; cases h) h

theorem op_slice {t : TypeId} {x : Operand} {lo hi mx : Option Operand} (H : HR V) (R : ER V env a.tmps) (h : (match P.underlying t, (evo env x).cell with
    | some (.slice e), some c => match szOf P e with
      | some s => (sliceA V.bl s c (lo.map (evo env)) (hi.map (evo env)) (mx.map (evo env))).map fun v => (v, none)
      | none => none
    | _, _ => none) = some (v, d)) : OpOk P V (do pure (.value (← Instr.sliceAt t (a.eval x) (lo.map a.eval) (hi.map a.eval) (mx.map a.eval)))) v d := by
  split at h
  · rename_i e c hu hx
    have hc := cell_sound (evo_sound R x) hx
    split at h
    · rename_i s hs
      obtain ⟨r, hr, he⟩ := Option.map_eq_some_iff.1 h
      injection he with h1 h2
      subst h1 h2
      have key : ∀ (y : Option Operand), (∀ p q, y.map (evo env) = some p → y.map a.eval = some q → VR V p q) ∧ (y.map (evo env)).isSome = (y.map a.eval).isSome := by
        intro y
        cases y with
        | none => exact ⟨(fun p q h => by cases h), rfl⟩
        | some y => exact ⟨fun p q h1 h2 => by simp at h1 h2; subst h1 h2; exact evo_sound R y, rfl⟩
      obtain ⟨v', hrun, hvr⟩ := sliceA_sound (P := P) H hu hs hc (key lo).1 (key lo).2 (key hi).1 (key hi).2 (key mx).1 (key mx).2 hr
      exact .reads H hrun hvr
    · cases h
  · cases h

theorem op_cells {l : Array Operand} {p : List Cell} (R : ER V env a.tmps) (h : l.toList.mapM (fun x => (evo env x).cell) = some p) : p.length = (l.map a.eval).size ∧ ∀ i c, p[i]? = some c → CR V c ((l.map a.eval).getD i undef) := by
  obtain ⟨h1, h2⟩ := mapM_get h
  refine ⟨by simpa using h1, fun i c hc => ?_⟩
  have hlt : i < l.toList.length := by have := (List.getElem?_eq_some_iff.1 hc).1; omega
  obtain ⟨y, hy, hy2⟩ := h2 i _ (List.getElem?_eq_getElem hlt)
  rw [hc] at hy2
  injection hy2 with hy2
  subst hy2
  have := cell_sound (evo_sound R _) hy
  have hlt' : i < l.size := by simpa using hlt
  simpa [Array.getD, hlt'] using this

theorem op_makeSlice {t : TypeId} {l c : Operand} (H : HR V) (R : ER V env a.tmps) {nw : Nat} (hn : V.bl nw = .none) (h : (match P.underlying t, intOf? (evo env l), intOf? (evo env c) with
    | some (.slice e), some l, some c =>
      match zeroCells P e, P.info? e with
      | some z, some i => if 0 ≤ l ∧ l ≤ c ∧ 0 < z.length ∧ z.length = i.size ∧ i.bytes * c ≤ 140737488355328 ∧ c ≤ 140737488355328 then
          some (AV.one (.sl nw l.toNat 0 l.toNat), some (nw, Blk.arr z.length (List.replicate l.toNat z)))
        else none
      | _, _ => none
    | _, _, _ => none) = some (v, d)) : OpOk P V (do pure (.value (← Instr.makeSlice t (a.eval l) (a.eval c)))) v d := by
  split at h
  · rename_i e ln cn hu hl hc
    obtain ⟨kl, hkl⟩ := int_sound (evo_sound R l) hl
    obtain ⟨kc, hkc⟩ := int_sound (evo_sound R c) hc
    split at h
    · rename_i z i hz hi
      split at h
      · rename_i hcond
        obtain ⟨h1, h2, h3, h4, h5, h6⟩ := hcond
        injection h with h
        injection h with hv hd
        subst hv hd
        obtain ⟨zv, _, hzc, i', hi', hzi⟩ := zero_sound (V := V) hz
        rw [hi] at hi'
        injection hi' with hi'
        subst hi'
        rw [hkl, hkc]
        have run := run_make (P := P) V.w t e i zv hu hi hzi kl kc ln cn h1 h2 (by omega) (by omega)
        have hcz := csr_zeros hzc h3 cn.toNat (cn.toNat * i.size) (by rw [h4])
        have hrep : (List.replicate ln.toNat z).length = ln.toNat := by simp
        have hcs := hcz.len
        have hfl : (List.replicate cn.toNat z).flatten.length = cn.toNat * z.length := by simp
        obtain ⟨g1, g2, g3⟩ := new_arr (w' := V.w.alloc (.cells (madeCells zv.cells (cn.toNat * i.size)) e)) H rfl hn (sz := z.length) (rows := List.replicate ln.toNat z) (cap := cn.toNat)
          (fun r hr => by rw [List.eq_of_mem_replicate hr]) (by rw [hrep]; omega) (by simp [size_madeCells, h4]) (fun i' j c' hc' => by
            obtain ⟨r, hr1, hr2⟩ := rc_some hc'
            have hri := (List.getElem?_eq_some_iff.1 hr1).1
            rw [hrep] at hri
            have hre : r = z := by rw [List.getElem?_replicate] at hr1; split at hr1 <;> simp_all
            subst hre
            have hj := (List.getElem?_eq_some_iff.1 hr2).1
            have hlt : i' < cn.toNat := by omega
            have hm : madeCells zv.cells (cn.toNat * i.size) = (Array.range (cn.toNat * i.size)).map (fun k => zv.cells[k % zv.cells.size]!) := rfl
            rw [hm]
            refine hcz.get _ _ ?_
            have gen : ∀ (n i' : Nat), i' < n → (List.replicate n r).flatten[i' * r.length + j]? = r[j]? := by
              intro n
              induction n with
              | zero => intro i' h; omega
              | succ n ih =>
                intro i' h
                rw [List.replicate_succ, List.flatten_cons]
                cases i' with
                | zero => rw [Nat.zero_mul, Nat.zero_add, List.getElem?_append_left hj]
                | succ i' =>
                  rw [List.getElem?_append_right (by rw [Nat.add_mul]; omega)]
                  have he : (i' + 1) * r.length + j - r.length = i' * r.length + j := by rw [Nat.add_mul]; omega
                  rw [he]
                  exact ih i' (by omega)
            rw [gen _ _ hlt]; exact hr2)
        refine new_val run ⟨g1, g2, ?_⟩
        rw [hrep] at g3
        exact g3
      · cases h
    · cases h
  · cases h

theorem op_buildSlice {t : TypeId} {len : Nat} {parts : Array (Nat × Operand)} (H : HR V) (R : ER V env a.tmps) {nw : Nat} (hn : V.bl nw = .none) (h : (match P.underlying t, parts.toList.mapM (fun p => ((evo env p.2).cells).map fun cs => (p.1, cs)) with
    | some (.slice e), some ps =>
      match zeroCells P e with
      | some z => if 0 < z.length ∧ len * z.length ≤ 2 ^ 24 ∧ szOf P e = some z.length then
          (fillA (fun i => some (i * z.length, z.length)) (List.replicate len z).flatten ps).map fun cs =>
            (AV.one (.sl nw len 0 len), some (nw, Blk.arr z.length (chunk z.length len cs)))
        else none
      | none => none
    | _, _ => none) = some (v, d)) : OpOk P V (do pure (.value (← Instr.buildSlice t len (parts.map fun x => match x with | (i, x) => (i, a.eval x))))) v d := by
  split at h
  · rename_i e ps hu hps
    split at h
    · rename_i z hz
      split at h
      · rename_i hcond
        obtain ⟨h0, h1, h2⟩ := hcond
        obtain ⟨cs, hf, he⟩ := Option.map_eq_some_iff.1 h
        injection he with hv hd
        subst hv hd
        obtain ⟨zv, hrz, hzc, i, hi, hzi⟩ := zero_sound (V := V) hz
        have hcz := csr_zeros hzc h0 len (len * z.length) rfl
        obtain ⟨D, hD, hc, hlen⟩ := fill_sound (parts_map R hps) hcz hf
        have hclen : cs.length = len * z.length := by rw [hlen]; simp
        have hDs : D.size = len * z.length := by have := hc.len; omega
        obtain ⟨g1, g2, g3⟩ := new_arr (w' := { V.w with heap := V.w.heap.push (.cells D e) }) (us := D) (e := e) H rfl hn (sz := z.length) (rows := chunk z.length len cs) (cap := len)
          (chunk_wid _ _ _ (by omega)) (by rw [chunk_length]; exact Nat.le_refl _) (by omega) (fun i' j c' hc' => hc.get _ _ (chunk_get _ _ _ _ _ _ hc').2.2)
        rw [chunk_length] at g3
        refine new_val ?_ ⟨g1, g2, g3⟩
        have hle : ¬ (16777216 < len * z.length) := by omega
        generalize (parts.map fun x => match x with | (i, x) => (i, a.eval x)) = PV at hD ⊢
        by_cases hl0 : len * z.length = 0
        · have hln : len = 0 := by
            rcases Nat.mul_eq_zero.1 hl0 with h | h
            · exact h
            · omega
          subst hln
          simp only [Nat.zero_mul] at hD
          have hr0 : (Array.range 0) = #[] := rfl
          simp only [hr0, Array.map_empty] at hD
          simp [Instr.buildSlice, run_underlying hu, run_size h2, hr0, hD, newRow, newObj, Sem.run]
        · simp [Instr.buildSlice, run_underlying hu, run_size h2, hle, hl0, hrz, hD, newRow, newObj, Sem.run]
      · cases h
    · cases h
  · cases h

end
end Go.AM
