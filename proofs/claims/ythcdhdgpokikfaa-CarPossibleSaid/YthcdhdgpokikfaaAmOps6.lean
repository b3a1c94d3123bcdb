/- Every operation. -/
import Derived.Test.YthcdhdgpokikfaaAmOps5
import Derived.Laws.Tables
import Derived.Laws.MakeOwn
namespace Go.AM

theorem plainKind (o : Oper) {P : Program} {V : View} (H : HR V) {env : Env} {a : Act} (R : ER V env a.tmps) {v : AV} {d : Option (Nat × Blk)} (h : plainOp P env o = some (v, d)) (hs : ∀ cs b, o.op ≠ .select cs b) :
    OpOk P V (execOp a.eval o) v d := plainOp_sound H R hs h

section
variable {P : Program} {V : View} {env : Env} {a : Act} {o : Oper} {v : AV} {d : Option (Nat × Blk)}

theorem op_move {x : Operand} (H : HR V) (R : ER V env a.tmps) : OpOk P V (pure (.value (a.eval x))) (evo env x) none := .value H rfl (evo_sound R x)

theorem OpOk.bindv {s : Sem Value} {v : AV} {d : Option (Nat × Blk)} (h : ∃ w' mu' v', s.run P V.w = .ok v' w' ∧ Ext V ⟨w', mu', bapp V.bl d, V.hid⟩ ∧ HR ⟨w', mu', bapp V.bl d, V.hid⟩ ∧ VR ⟨w', mu', bapp V.bl d, V.hid⟩ v v' ∧ ∀ j, (∀ b, d ≠ some (j, b)) → mu' j = V.mu j) :
    OpOk P V (do pure (.value (← s))) v d := by
  obtain ⟨w', mu', v', h1, h2, h3, h4, h5⟩ := h
  exact ⟨.value v', w', mu', v', by simp [h1], .inl rfl, h2, h3, h4, h5⟩
theorem OpOk.reads {s : Sem Value} {v : AV} {v' : Value} (H : HR V) (h : s.run P V.w = .ok v' V.w) (hv : VR V v v') : OpOk P V (do pure (.value (← s))) v none :=
  .bindv ⟨V.w, V.mu, v', h, Ext.refl V, H, hv, fun _ _ => rfl⟩

theorem new_val {nw : Nat} {s : Sem Value} {v : AV} {v' : Value} {w' : World} {b : Blk} (hs : s.run P V.w = .ok v' w')
    (h : Ext V ⟨w', upd V.mu nw V.w.heap.size, upd V.bl nw b, V.hid⟩ ∧ HR ⟨w', upd V.mu nw V.w.heap.size, upd V.bl nw b, V.hid⟩ ∧ VR ⟨w', upd V.mu nw V.w.heap.size, upd V.bl nw b, V.hid⟩ v v') :
    OpOk P V (do pure (.value (← s))) v (some (nw, b)) :=
  .bindv ⟨w', _, v', hs, h.1, h.2.1, h.2.2, fun _ hj => upd_ne _ _ (ne_of_d hj)⟩

theorem parts_map {ps : List (Nat × List Cell)} (R : ER V env a.tmps) {parts : Array (Nat × Operand)} (h : parts.toList.mapM (fun p => ((evo env p.2).cells).map fun cs => (p.1, cs)) = some ps) :
    PartsR V ps ((parts.map fun x => match x with | (i, x) => (i, a.eval x)).toList) := by
  have := parts_get R h
  simpa using this

theorem op_build {t : TypeId} {parts : Array (Nat × Operand)} (H : HR V) (R : ER V env a.tmps) {z : List Cell} {ps : List (Nat × List Cell)} (hz : zeroCells P t = some z)
    (hps : parts.toList.mapM (fun p => ((evo env p.2).cells).map fun cs => (p.1, cs)) = some ps) {place : Nat → Option (Nat × Nat)} {out : List Cell} (hf : fillA place z ps = some out)
    (hb : ∀ zv i, P.info? t = some i → i.zero = some zv → ∀ vs D, Instr.fill place zv.cells vs = some D → P.built t vs = some D) :
    OpOk P V (do pure (.value (← Instr.build t (parts.map fun x => match x with | (i, x) => (i, a.eval x))))) (.agg out) none := by
  obtain ⟨zv, _, hzc, i, hi, hzi⟩ := zero_sound (V := V) hz
  obtain ⟨D, hD, hc, _⟩ := fill_sound (parts_map R hps) hzc hf
  exact .reads H (run_build V.w t _ D (hb _ _ hi hzi _ _ hD)) (.agg hc.len hc.get)

theorem op_load {t : TypeId} {x : Operand} (H : HR V) (R : ER V env a.tmps) (h : (match (evo env x).cell with
    | some p => match aggB P t, szOf P t with
      | some true, some s => (rdPtr V.bl s p).map fun cs => (AV.agg cs, none)
      | some false, _ => match rdPtr V.bl 1 p with
        | some [c] => some (AV.one c, none)
        | _ => none
      | _, _ => none
    | none => none) = some (v, d)) : OpOk P V (do pure (.value (← Instr.loadAt t (a.eval x)))) v d := by
  split at h
  · rename_i p hp
    have hc := cell_sound (evo_sound R x) hp
    split at h
    · rename_i s ha hs
      obtain ⟨cs, hr, he⟩ := Option.map_eq_some_iff.1 h
      injection he with h1 h2
      subst h1 h2
      obtain ⟨ad, us, hv, hrun, hcs⟩ := run_loadVarA H hc ha hs hr
      refine .reads H ?_ (.agg hcs.len hcs.get)
      rw [hv]
      simpa [Instr.loadAt, Instr.sureAddr] using hrun
    · rename_i ha
      split at h
      · rename_i c hr
        injection h with h
        injection h with h1 h2
        subst h1 h2
        obtain ⟨ad, u, hv, hrun, hcu⟩ := run_loadVar1 H hc ha hr
        refine .reads H ?_ (.one hcu)
        rw [hv]
        simpa [Instr.loadAt, Instr.sureAddr] using hrun
      · cases h
    · cases h
  · cases h

theorem op_store {t : TypeId} {x y : Operand} (H : HR V) (R : ER V env a.tmps) (h : (match (evo env x).cell, (evo env y).cells with
    | some p, some cs => if szOf P t = some cs.length then (wrPtr V.bl cs p).map fun d => (AV.und, some d) else none
    | _, _ => none) = some (v, d)) : OpOk P V (do Instr.storeAt t (a.eval x) (a.eval y); pure .skip) v d := by
  split at h
  · rename_i p cs hp hcs
    split at h
    · rename_i hs
      obtain ⟨d', hw, he⟩ := Option.map_eq_some_iff.1 h
      injection he with h1 h2
      subst h1 h2
      obtain ⟨hd, b⟩ := d'
      have hc := cell_sound (evo_sound R x) hp
      have hcs' := cells_sound (evo_sound R y) hcs
      obtain ⟨ad, w', hv, hrun, hE, hH⟩ := wrPtr_sound (P := P) H hc hcs' hw
      refine ⟨.skip, w', V.mu, undef, ?_, .inr ⟨rfl, rfl⟩, hE, hH, .und, fun _ _ => rfl⟩
      rw [hv]
      have hsz := hcs'.len
      simp [Instr.storeAt, Instr.sureAddr, storeVar, run_size hs, hsz, hrun]
    · cases h
  · cases h

theorem op_indexAddr {t : TypeId} {x ix : Operand} (H : HR V) (R : ER V env a.tmps) (h : (match P.underlying t, (evo env x).cell, intOf? (evo env ix) with
    | some (.slice e), some c, some i =>
      match szOf P e with
      | some s => match lenOf V.bl c, rowsOf V.bl s c with
        | some n, some _ => if 0 ≤ i ∧ i < n then some (AV.one (.ep c s i.toNat 0), none) else none
        | _, _ => none
      | none => none
    | some (.array n e), some (.bp h off), some i => match szOf P e with
      | some s => if 0 ≤ i ∧ i < n then some (AV.one (.bp h (off + i.toNat * s)), none) else none
      | none => none
    | _, _, _ => none) = some (v, d)) : OpOk P V (do pure (.value (← Instr.indexAt t (a.eval x) (a.eval ix)))) v d := by
  split at h
  · rename_i e c i ht hx hi
    obtain ⟨k, hk⟩ := int_sound (evo_sound R ix) hi
    have hc := cell_sound (evo_sound R x) hx
    split at h
    · rename_i s hs
      split at h
      · rename_i n rows hn hr
        split at h
        · rename_i hb
          injection h with h
          injection h with h1 h2
          subst h1 h2
          obtain ⟨A, cap, RA⟩ := rowsOf_sound H hc hr
          have hv := RA.val
          have hnl : rows.length = n := by
            rcases lenOf_sound hc hn with ⟨_, _, h1, _⟩ | ⟨h1, _⟩ | ⟨_, h1, _⟩ | ⟨_, _, _, _, h1, _⟩
            · rw [hv] at h1; injection h1
            all_goals rw [hv] at h1; cases h1
          have hne : rows ≠ [] := by intro h0; subst h0; simp at hnl; omega
          obtain ⟨ad, rfl⟩ := RA.addr hne
          have hsp := RA.spot ad rfl hne
          refine .reads H (v' := .pointer (some ⟨ad.block, ad.off + (i.toNat * s + 0), none⟩)) ?_ (.one (.ep (hv ▸ hc) hsp))
          rw [hv, hk]
          have hlt : i < (rows.length : Int) := by omega
          have ha := add_spot hsp (i.toNat * s)
          simp [Instr.indexAt, asIntOf, run_underlying ht, hb.1, hlt, run_size hs, ha]
        · cases h
      · cases h
    · cases h
  · rename_i n e hh off i ht hx hi
    obtain ⟨k, hk⟩ := int_sound (evo_sound R ix) hi
    have hc := cell_sound (evo_sound R x) hx
    split at h
    · rename_i s hs
      split at h
      · rename_i hb
        injection h with h
        injection h with h1 h2
        subst h1 h2
        generalize hvx : a.eval x = vx at hc ⊢
        cases hc with
        | ro hr => cases hr
        | @bp _ _ b g1 g3 =>
          refine .reads H (v' := .pointer (some ⟨b, off + i.toNat * s, none⟩)) ?_ (.one (.bp g1 g3))
          rw [hk]
          have ha := add_spot (a := ⟨b, off, none⟩) rfl (i.toNat * s)
          simp [Instr.indexAt, Instr.sureAddr, asIntOf, run_underlying ht, hb.1, hb.2, run_size hs, ha]
      · cases h
    · cases h
  · cases h
end

end Go.AM
