/- aop is sound. -/
import Derived.Test.YthcdhdgpokikfaaAmOps7
namespace Go.AM
section
variable {P : Program} {V : View} {env : Env} {a : Act} {o : Oper} {v : AV} {d : Option (Nat × Blk)}

theorem op_builtin {c : Call} {b : Builtin} (hc : c.callee = .builtin b) (ho : o.op = .call c) (H : HR V) (R : ER V env a.tmps) {nw : Nat} (hn : V.bl nw = .none) (h : aopBuiltin P nw V.bl env o c b = some (v, d)) : OpOk P V (execOp a.eval o) v d := by
  have hs : ∀ cs b, o.op ≠ .select cs b := by rw [ho]; intro _ _ h; cases h
  have hx : execOp a.eval o = (do let d ← resolve a.eval c o.type; invoke d.target d.args) := by unfold execOp; rw [ho]
  unfold aopBuiltin at h
  split at h
  · -- len
    split at h
    · rename_i x hargs
      have hargs' : c.args = #[x] := by cases hc' : c.args; simp_all
      split at h
      · exact plainOp_sound H R hs h
      · rename_i hh hcell
        have hcr := cell_sound (evo_sound R x) hcell
        split at h
        · rename_i n kt et hn' hty
          injection h with h
          injection h with h1 h2
          subst h1 h2
          obtain ⟨t, ht, hu⟩ := Option.bind_eq_some_iff.1 hty
          have hv := lenOf_sound hcr hn'
          rcases hv with ⟨A, cap, hv, _⟩ | ⟨_, _, h3⟩ | ⟨s, _, _, h3⟩ | ⟨h', es, h3, h4, h5, h6⟩
          · exfalso
            rw [hv] at hcr
            cases hcr with
            | ro hr => cases hr
          · cases h3
          · cases h3
          · injection h3 with h3
            subst h3
            obtain ⟨ents, clock, g1, g2, _⟩ := H.at h4
            refine .value H (v' := .int .i64 n) ?_ (.one (.ro (.sc rfl)))
            rw [hx]
            simp [resolve, hc, hargs', invoke, builtin, h5, Builtin.len_, ht, run_underlying hu, getObj, Sem.run, g1, goInt, g2, h6]
        · cases h
      · rename_i q hq hq2 hcell
        have hcr := cell_sound (evo_sound R x) hcell
        split at h
        · rename_i n e hn' hty
          injection h with h
          injection h with h1 h2
          subst h1 h2
          obtain ⟨t, ht, hu⟩ := Option.bind_eq_some_iff.1 hty
          rcases lenOf_sound hcr hn' with ⟨A, cap, hv, _⟩ | ⟨_, _, h3⟩ | ⟨s, _, _, h3⟩ | ⟨h', es, h3, _⟩
          · refine .value H (v' := .int .i64 n) ?_ (.one (.ro (.sc rfl)))
            rw [hx]
            simp [resolve, hc, hargs', invoke, builtin, hv, Builtin.len_, ht, run_underlying hu, goInt]
          · exact absurd h3 (hq _)
          · exact absurd h3 (hq _)
          · exact absurd h3 (hq2 _)
        · cases h
      · cases h
    · cases h
  · -- append
    split at h
    · rename_i s x t t' hargs htys
      have hargs' : c.args = #[s, x] := by cases hc' : c.args; simp_all
      have htys' : c.argTypes = #[t, t'] := by cases hc' : c.argTypes; simp_all
      split at h
      · rename_i htt
        subst htt
        split at h
        · rename_i e sc xc hu hsc hxc
          have hcs := cell_sound (evo_sound R s) hsc
          have hcx := cell_sound (evo_sound R x) hxc
          split at h
          · rename_i i hi
            split at h
            · rename_i new hnew
              split at h
              · rename_i z hz
                split at h
                · rename_i hcond
                  obtain ⟨hb0, hs0, hzl⟩ := hcond
                  obtain ⟨A, cx, RA⟩ := rowsOf_sound H hcx hnew
                  obtain ⟨zv, _, hzc, i', hi', hzi⟩ := zero_sound (V := V) hz
                  rw [hi] at hi'
                  injection hi' with hi'
                  subst hi'
                  obtain ⟨w', mu', v', h1, h2, h3, h4, h5⟩ := appendA_sound (P := P) (ty := o.type) H hu hi hzi (by have := hzc.len; omega) hs0 hn hcs RA h hb0
                  refine ⟨.value v', w', mu', v', ?_, .inl rfl, h2, h3, h4, h5⟩
                  rw [hx]
                  simp [resolve, hc, hargs', htys', invoke, builtin, h1]
                · cases h
              · cases h
            · cases h
          · cases h
        · cases h
      · cases h
    · cases h
  · exact plainOp_sound H R hs h
  · exact plainOp_sound H R hs h
  · cases h

theorem unlike_sound {k : TypeDesc} {x y : Value} {c : Cell} {t : TypeId} (hk : P.underlying t = some k) (hu : unlike k x c = true) (h2 : CR V c y) :
    (∀ op ox oy, eqGuard op t ox oy x y = pure ()) ∧ (∀ op ox oy, eqGuard op t ox oy y x = pure ()) ∧
    ((binOp .eql t x y).run P V.w = .ok (.bool false) V.w ∧ (binOp .neq t x y).run P V.w = .ok (.bool true) V.w) ∧
    ((binOp .eql t y x).run P V.w = .ok (.bool false) V.w ∧ (binOp .neq t y x).run P V.w = .ok (.bool true) V.w) := by
  have key : (∀ op ox oy, eqGuard op t ox oy x y = pure ()) → (∀ op ox oy, eqGuard op t ox oy y x = pure ()) →
      (binOp .eql t x y = (do pure (.bool (← Op.equal t x y)))) → (binOp .neq t x y = (do pure (.bool (!(← Op.equal t x y))))) →
      (binOp .eql t y x = (do pure (.bool (← Op.equal t y x)))) → (binOp .neq t y x = (do pure (.bool (!(← Op.equal t y x))))) →
      (∀ d, (Op.equalIn (d + 1) t x y).run P V.w = .ok false V.w) → (∀ d, (Op.equalIn (d + 1) t y x).run P V.w = .ok false V.w) →
      (∀ op ox oy, eqGuard op t ox oy x y = pure ()) ∧ (∀ op ox oy, eqGuard op t ox oy y x = pure ()) ∧
      ((binOp .eql t x y).run P V.w = .ok (.bool false) V.w ∧ (binOp .neq t x y).run P V.w = .ok (.bool true) V.w) ∧
      ((binOp .eql t y x).run P V.w = .ok (.bool false) V.w ∧ (binOp .neq t y x).run P V.w = .ok (.bool true) V.w) := by
    intro e1 e2 b1 b2 b3 b4 r1' r2'
    have r1 : (Op.equal t x y).run P V.w = .ok false V.w := r1' 9999
    have r2 : (Op.equal t y x).run P V.w = .ok false V.w := r2' 9999
    refine ⟨e1, e2, ⟨?_, ?_⟩, ⟨?_, ?_⟩⟩
    · rw [b1]; simp [r1]
    · rw [b2]; simp [r1]
    · rw [b3]; simp [r2]
    · rw [b4]; simp [r2]
  unfold unlike at hu
  split at hu <;> first | (cases hu; done) | skip
  all_goals
    cases h2 <;> first
      | (rename_i hr; cases hr; done)
      | skip
  all_goals first
    | (refine key (fun op _ _ => by cases op <;> rfl) (fun op _ _ => by cases op <;> rfl) rfl rfl rfl rfl ?_ ?_ <;> (intro d; simp only [Op.equalIn, Sem.run_bind, run_underlying hk, Result.andThen_ok]; rfl))
    | (rename_i hr; cases hr; refine key (fun op _ _ => by cases op <;> rfl) (fun op _ _ => by cases op <;> rfl) rfl rfl rfl rfl ?_ ?_ <;> (intro d; simp only [Op.equalIn, Sem.run_bind, run_underlying hk, Result.andThen_ok]; rfl))

theorem op_eqNil {op : BinOp} {t u : TypeId} {x y : Operand} (hop : op = .eql ∨ op = .neq) (ho : o.op = .binOp op t x y u) (H : HR V) (R : ER V env a.tmps) (h : eqNil P env op t x y = some v) : OpOk P V (execOp a.eval o) v none := by
  have he : execOp a.eval o = ((eqGuard op t x y (a.eval x) (a.eval y) >>= fun _ => binOp op t (a.eval x) (a.eval y)) >>= fun r => pure (.value r)) := by unfold execOp; rw [ho]
  rw [he]
  have hx := evo_sound R x
  have hy := evo_sound R y
  unfold eqNil at h
  split at h
  · rename_i k u0 c hk h1 h2
    rw [h1] at hx
    rw [h2] at hy
    split at h
    · rename_i hu
      injection h with h
      subst h
      have hxv : a.eval x = u0 := toV_sound hx _ rfl
      cases hy with
      | one hc =>
        obtain ⟨g1, _, ⟨g3, g4⟩, _⟩ := unlike_sound (P := P) hk hu hc
        rw [hxv]
        rcases hop with rfl | rfl
        · exact .reads H (by rw [g1]; simpa using g3) (.one (.ro (.sc rfl)))
        · exact .reads H (by rw [g1]; simpa using g4) (.one (.ro (.sc rfl)))
    · cases h
  · rename_i k c u0 _ hk h1 h2
    rw [h1] at hx
    rw [h2] at hy
    split at h
    · rename_i hu
      injection h with h
      subst h
      have hyv : a.eval y = u0 := toV_sound hy _ rfl
      cases hx with
      | one hc =>
        obtain ⟨_, g1, _, ⟨g3, g4⟩⟩ := unlike_sound (P := P) hk hu hc
        rw [hyv]
        rcases hop with rfl | rfl
        · exact .reads H (by rw [g1]; simpa using g3) (.one (.ro (.sc rfl)))
        · exact .reads H (by rw [g1]; simpa using g4) (.one (.ro (.sc rfl)))
    · cases h
  · cases h

theorem aop_sound {nw : Nat} (H : HR V) (R : ER V env a.tmps) (hn : V.bl nw = .none) (h : aop P nw V.bl env o = some (v, d)) : OpOk P V (execOp a.eval o) v d := by
  unfold aop at h
  split at h <;> rename_i hop
  · rename_i x
    injection h with h; injection h with h1 h2; subst h1 h2
    have : execOp a.eval o = pure (.value (a.eval x)) := by unfold execOp; rw [hop]
    rw [this]; exact op_move H R
  · rename_i x
    injection h with h; injection h with h1 h2; subst h1 h2
    have : execOp a.eval o = pure (.value (a.eval x)) := by unfold execOp; rw [hop]
    rw [this]; exact op_move H R
  · rename_i c x y
    split at h
    · rename_i t hc
      injection h with h; injection h with h1 h2; subst h1 h2
      have hv := evo_sound R c
      rw [hc] at hv
      have hcv : a.eval c = .bool t := toV_sound hv _ rfl
      refine .value H (v' := if t then a.eval x else a.eval y) ?_ ?_
      · unfold execOp
        rw [hop]
        simp [hcv, asBool]
      · cases t
        · exact evo_sound R y
        · exact evo_sound R x
    · cases h
  · rename_i e
    obtain ⟨z, hz, he⟩ := Option.map_eq_some_iff.1 h
    injection he with h1 h2; subst h1 h2
    obtain ⟨zv, hrz, hzc, _⟩ := zero_sound (V := V) hz
    have : execOp a.eval o = (do pure (.value (← Instr.alloc e true (.tuple #[])))) := by unfold execOp; rw [hop]
    rw [this]
    refine new_val (w' := { V.w with heap := V.w.heap.push (.cells zv.cells e) }) ?_ (new_box H rfl hn hzc)
    simp [Instr.alloc, hrz, newVar, newRow, newObj, Sem.run]
  · rename_i e x
    obtain ⟨cs, hcs, he⟩ := Option.map_eq_some_iff.1 h
    injection he with h1 h2; subst h1 h2
    have : execOp a.eval o = (do pure (.value (← Instr.box e (a.eval x)))) := by unfold execOp; rw [hop]
    rw [this]
    refine new_val (w' := { V.w with heap := V.w.heap.push (.cells (a.eval x).cells e) }) ?_ (new_box H rfl hn (cells_sound (evo_sound R x) hcs))
    simp [Instr.box, newVar, newRow, newObj, Sem.run]
  · rename_i t parts
    have : execOp a.eval o = (do pure (.value (← Instr.build t (parts.map fun x => match x with | (i, x) => (i, a.eval x))))) := by unfold execOp; rw [hop]
    rw [this]
    split at h
    · rename_i z ps fields hz hps hu
      split at h
      · rename_i places hpl
        obtain ⟨cs, hf, he⟩ := Option.map_eq_some_iff.1 h
        injection he with h1 h2; subst h1 h2
        refine op_build H R hz hps hf (fun zv i hi hzi vs D hD => ?_)
        unfold Program.built
        rw [hi, hu]
        simp only [hzi]
        have : fields.toList.mapM (fun f => (P.info? f.type).map fun i => (f.offset, i.size)) = some places := by
          rw [← hpl]
          congr 1
          funext f
          simp [szOf, Option.map_map]
          rfl
        rw [this]
        simpa using hD
      · cases h
    · rename_i z ps n e hz hps hu
      split at h
      · rename_i s hs
        obtain ⟨cs, hf, he⟩ := Option.map_eq_some_iff.1 h
        injection he with h1 h2; subst h1 h2
        refine op_build H R hz hps hf (fun zv i hi hzi vs D hD => ?_)
        obtain ⟨ie, hie, rfl⟩ := info_of_size hs
        unfold Program.built
        rw [hi, hu]
        simp only [hzi, hie]
        exact hD
      · cases h
    · cases h
  · rename_i t len parts
    have : execOp a.eval o = (do pure (.value (← Instr.buildSlice t len (parts.map fun x => match x with | (i, x) => (i, a.eval x))))) := by unfold execOp; rw [hop]
    rw [this]; exact op_buildSlice H R hn h
  · rename_i t x
    have : execOp a.eval o = (do pure (.value (← Instr.loadAt t (a.eval x)))) := by unfold execOp; rw [hop]
    rw [this]; exact op_load H R h
  · rename_i t x y
    have : execOp a.eval o = (do Instr.storeAt t (a.eval x) (a.eval y); pure .skip) := by unfold execOp; rw [hop]
    rw [this]; exact op_store H R h
  · rename_i x
    have he : execOp a.eval o = (match a.eval x with
      | .pointer none | .nilIface | .nilFunc => runtimePanic .nilDeref
      | .func (.method name) first captured =>
        match (first[0]? : Option Value) with
        | some .nilIface => runtimePanic .nilDeref
        | some (.iface t w) => do
          if (← nilAhead ((← program).types.size + Made.depth) t w name) != some false then
            unsupported (.noEntry "op/nilCheck.the method's receiver behind this interface value is a nil pointer, or cannot be seen to be none, and the arguments act or may panic (ledger 612)")
          pure (.value (.func (.method name) first captured))
        | _ => pure (.value (.func (.method name) first captured))
      | x => pure (.value x)) := by unfold execOp; rw [hop]; rfl
    rw [he]
    split at h
    · rename_i hh off hc
      injection h with h; injection h with h1 h2; subst h1 h2
      have hcr := cell_sound (evo_sound R x) hc
      generalize a.eval x = vx at hcr ⊢
      cases hcr with
      | ro hr => cases hr
      | bp g1 g2 => exact .value H rfl (.one (.bp g1 g2))
    · rename_i q sz i off hc
      injection h with h; injection h with h1 h2; subst h1 h2
      have hcr := cell_sound (evo_sound R x) hc
      generalize a.eval x = vx at hcr ⊢
      cases hcr with
      | ro hr => cases hr
      | ep g1 g2 => exact .value H rfl (.one (.ep g1 g2))
    · rename_i f p q hc
      injection h with h; injection h with h1 h2; subst h1 h2
      have hcr := cell_sound (evo_sound R x) hc
      generalize a.eval x = vx at hcr ⊢
      cases hcr with
      | ro hr => cases hr with | fn => exact .value H rfl (.one (.ro .fn))
      | fn g1 g2 g3 g4 => exact .value H rfl (.one (.fn g1 g2 g3 g4))
    · cases h
  · rename_i op t x y u
    have hs : ∀ cs b, o.op ≠ .select cs b := by rw [hop]; intro _ _ h; cases h
    split at h
    · split at h
      · rename_i r hr
        injection h with h; injection h with h1 h2; subst h1 h2
        exact op_eqNil (.inl rfl) hop H R hr
      · exact plainOp_sound H R hs h
    · split at h
      · rename_i r hr
        injection h with h; injection h with h1 h2; subst h1 h2
        exact op_eqNil (.inr rfl) hop H R hr
      · exact plainOp_sound H R hs h
    · exact plainOp_sound H R hs h
  · exact plainOp_sound H R (by rw [hop]; intro _ _ h; cases h) h
  · exact plainOp_sound H R (by rw [hop]; intro _ _ h; cases h) h
  · rename_i f first caps
    split at h
    · rename_i p q hp hq
      injection h with h; injection h with h1 h2; subst h1 h2
      obtain ⟨g1, g2⟩ := op_cells R hp
      obtain ⟨g3, g4⟩ := op_cells R hq
      refine .value H (v' := .func f (first.map a.eval) (caps.map a.eval)) ?_ (.one (.fn g1 g3 g2 g4))
      unfold execOp
      rw [hop]
      simp [Instr.makeFunc]
    · cases h
  · rename_i t r
    split at h
    · rename_i kt et hu
      injection h with h; injection h with h1 h2; subst h1 h2
      have he : execOp a.eval o = (do pure (.value (← Instr.makeMap t none))) := by unfold execOp; rw [hop]; rfl
      rw [he]
      refine new_val (w' := { V.w with heap := V.w.heap.push (.map #[] 0) }) (v' := .map (some V.w.heap.size)) (by simp [Instr.makeMap, newObj, Sem.run])
        ⟨View.alloc H rfl hn _, HR.alloc H rfl hn (fun V' _ _ ho => ⟨#[], 0, ho, rfl, fun i k x hx => by simp at hx⟩), .one (.mp (by simp only [upd_same]; simp) (fun es _ => by simp only [upd_same]))⟩
    · cases h
  · rename_i t l c
    have : execOp a.eval o = (do pure (.value (← Instr.makeSlice t (a.eval l) (a.eval c)))) := by unfold execOp; rw [hop]
    rw [this]; exact op_makeSlice H R hn h
  · rename_i t x lo hi mx
    have : execOp a.eval o = (do pure (.value (← Instr.sliceAt t (a.eval x) (lo.map a.eval) (hi.map a.eval) (mx.map a.eval)))) := by unfold execOp; rw [hop]
    rw [this]; exact op_slice H R h
  · rename_i s x f
    have : execOp a.eval o = (do pure (.value (← Instr.fieldAt s (a.eval x) f))) := by unfold execOp; rw [hop]
    rw [this]; exact op_fieldAddr H R h
  · rename_i t x f
    have : execOp a.eval o = (do pure (.value (← Instr.field t (a.eval x) f))) := by unfold execOp; rw [hop]
    rw [this]; exact op_field H R h
  · rename_i t x ix
    have : execOp a.eval o = (do pure (.value (← Instr.indexAt t (a.eval x) (a.eval ix)))) := by unfold execOp; rw [hop]
    rw [this]; exact op_indexAddr H R h
  · exact op_index H R hop h
  · rename_i x i
    have he : execOp a.eval o = (do pure (.value (← Instr.extract (a.eval x) i))) := by unfold execOp; rw [hop]
    split at h
    · rename_i vs hx
      obtain ⟨u, hu, he2⟩ := Option.map_eq_some_iff.1 h
      injection he2 with h1 h2; subst h1 h2
      have hv := evo_sound R x
      rw [hx] at hv
      rw [he]
      generalize a.eval x = vx at hv ⊢
      cases hv with
      | @tup _ us g1 g2 =>
        have hlt := (List.getElem?_eq_some_iff.1 hu).1
        have hg := g2 _ _ hu
        have hx := getD_lt (C := us) (i := i) (by omega)
        generalize us.getD i undef = y at hg hx
        exact .reads H (by simp [Instr.extract, hx]) hg
    · cases h
  · rename_i c
    split at h
    · rename_i b hc
      exact op_builtin hc hop H R hn h
    · cases h
  · cases h

end
end Go.AM
