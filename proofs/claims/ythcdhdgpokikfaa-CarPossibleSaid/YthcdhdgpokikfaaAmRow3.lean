/- The arguments of a law; the statement. -/
import Derived.Test.YthcdhdgpokikfaaAmRow2
import Derived.Test.YthcdhdgpokikfaaAmWp
import Derived.Handed
import Derived.JoinedOf
namespace Go.AM
open Go.ChangeShapes Go.WideShapes Go.RowKit

def mkAV (P : Program) (t : TypeId) (cs : List Cell) : AV := if aggB P t = some true then .agg cs else match cs with
  | [c] => .one c
  | _ => .bad
/-- What an argument looks like. -/
def ArgSh (P : Program) (m : Nat) (t : TypeId) (a : AV) : Prop := ∃ cs, Sh P m t cs ∧ a = mkAV P t cs
def Args (P : Program) (m : Nat) : List TypeId → List AV → Prop
  | [], [] => True
  | t :: ts, a :: l => ArgSh P m t a ∧ Args P m ts l
  | _, _ => False

section
variable {H : Type} {enc : TypeId × Value → H} {P : Program} {W : World}
theorem arg_of {m : Nat} {t : TypeId} {v : Value} {d : DataW H} {ps : List MemPlace} {base : Nat} (hok : okTy P m t = true) (hw : Value.okWide P W .any base t v) (h : DataW.Trod enc P W 0 (fun _ => true) true t v d ps) :
    ∃ a, ArgSh P m t a ∧ VR (VZ W) a v := by
  have one : aggB P t = some false → v.cells = #[v] → ∃ a, ArgSh P m t a ∧ VR (VZ W) a v := by
    intro hb hv
    obtain ⟨fuel, h⟩ := h
    rw [hv] at h
    obtain ⟨cs, ho, hs⟩ := opens_of m fuel t _ _ hok h
    have h1 := ho.1
    match cs, h1 with
    | [c], _ => exact ⟨.one c, ⟨[c], hs, by simp [mkAV, hb]⟩, .one (.ro (show RO W (own (VZ W)) c v by have := ho.2 0 c rfl; simpa [List.getD] using this))⟩
  cases m with
  | zero => simp [okTy] at hok
  | succ m =>
    have hok' := hok
    unfold okTy at hok'
    split at hok'
    · rename_i hu
      obtain ⟨b, rfl, _⟩ := open_bool hu hw h
      exact one (by simp [aggB, hu]) rfl
    · rename_i k hu
      obtain ⟨n, rfl⟩ := okWide_int hu hw
      exact one (by simp [aggB, hu]) rfl
    · rename_i hu
      obtain ⟨s, rfl⟩ := okWide_string hu hw
      exact one (by simp [aggB, hu]) rfl
    · rename_i e hu
      obtain ⟨a, l, c, rfl⟩ := okWide_slice hu hw
      exact one (by simp [aggB, hu]) rfl
    · rename_i fs hu
      unfold Value.okWide at hw
      rw [hu] at hw
      obtain ⟨vs, rfl, _⟩ := hw
      obtain ⟨fuel, h⟩ := h
      obtain ⟨cs, ho, hs⟩ := opens_of (m + 1) fuel t _ _ hok h
      have h1 := ho.1
      refine ⟨.agg cs, ⟨cs, hs, by simp [mkAV, aggB, hu]⟩, .agg (by simpa [Value.cells] using h1) (fun i c hc => .ro ?_)⟩
      have := ho.2 i c hc
      show RO W (own (VZ W)) c _
      simpa [Value.cells, List.getD, Array.getD_eq_getD_getElem?] using this
    · cases hok'

theorem args_of {m : Nat} {base : Nat} : ∀ {ts : List TypeId} {vs : List Value} {ds : List (DataW H)} {ps : List MemPlace}, (∀ t ∈ ts, okTy P m t = true) → (∀ (j : Nat) t v, ts[j]? = some t → vs[j]? = some v → Value.okWide P W .any base t v) →
    DataW.TrodAll enc P W 0 (fun _ => true) true ts vs ds ps → ds.length = ts.length ∧ ∃ avs : List AV, avs.length = vs.length ∧ (∀ i x, avs[i]? = some x → VR (VZ W) x (vs.getD i undef)) ∧ Args P m ts avs := by
  intro ts
  induction ts with
  | nil =>
    intro vs ds ps _ _ h
    obtain ⟨rfl, rfl, rfl⟩ := trodAll_nil h
    exact ⟨rfl, [], rfl, fun i x h => by simp at h, trivial⟩
  | cons t ts ih =>
    intro vs ds ps hok hw h
    obtain ⟨v, vs1, d, ds1, a, b, rfl, rfl, rfl, h1, h2⟩ := trodAll_cons h
    obtain ⟨x, hx, hv⟩ := arg_of (hok t (by simp)) (hw 0 t v rfl rfl) h1
    obtain ⟨hl, avs, h3, h4, h5⟩ := ih (fun t h => hok t (by simp [h])) (fun j t v h g => hw (j + 1) t v (by simpa using h) (by simpa using g)) h2
    refine ⟨by simp [hl], x :: avs, by simp [h3], fun i y hy => ?_, ⟨hx, h5⟩⟩
    cases i with
    | zero => simp at hy; subst hy; simpa using hv
    | succ i => simpa using h4 i y (by simpa using hy)

/-- A law: where the abstract machine answers true to whatever looks like the law's arguments. -/
theorem law_lifted {C : Checked} {os : Os} {f : FuncId} {fn : Func} {s : ChangeSpec} {conds : List PathCond} {m : Nat} {tb : TypeId}
    (hp : progOk C.prog = true) (hmix : C.prog.follows .mixedOrders = true) (hl : laidOutB C.prog = true)
    (own : ownKnob C.prog.godebug = none) (started : os.Started) (noInit : C.prog.inits.idxOf? f = none) (hfn : C.prog.funcs[f]? = some fn)
    (witness : ∃ (w : World) (tape : Tape) (i : Input), w.os = os ∧ (w.forCall tape i).Shaped C.prog ∧ i.vars = [] ∧ Input.okWide C.prog (w.forCall tape i) .any w.heap.size f i ∧
      s.pre6 enc C.prog fn conds false (w.forCall tape i).memory i.args ∧ ({} : Assume).holds C.prog (lone (Frame.enter C.prog f i.args .normal) [] (w.forCall tape i)))
    (hvars : s.vars = []) (hrt : fn.resultTypes = #[tb]) (htb : C.prog.underlying tb = some .bool)
    (hts : fn.params.toList.all (fun t => C.prog.readableRec t && decide (t < C.prog.types.size) && okTy C.prog m t) = true)
    (hspec : ∀ ds : List (DataW H), ds.length = fn.params.size → (s.fn H ds).results = [.lit (.bool true)] ∧ (s.fn H ds).args = ds ∧ (s.fn H ds).vars = [])
    (law : ∀ avs : List AV, Args C.prog m fn.params.toList avs → Cv C.prog f avs HZ (fun r _ => r = .one (.sc (.bool true)))) :
    ReturnsInHanded {} C os f .any (s.pre6 enc C.prog fn conds false) (s.post enc C.prog fn false true false false) := by
  refine returnsInHanded_of_change own started noInit hfn witness ?_
  intro W base args ds gs before hval hW _ _
  have hts1 : ∀ t ∈ fn.params.toList, (C.prog.readableRec t = true ∧ t < C.prog.types.size) ∧ okTy C.prog m t = true := fun t ht => by
    have := List.all_eq_true.1 hts t ht
    simpa using this
  have hgs : gs = [] := by
    obtain ⟨p, q, hA, hV, hbf, hz, hn⟩ := hW
    rw [hvars] at hV
    exact (trodVars_none hV).1
  obtain ⟨hdl, avs, h1, h2, h3⟩ : ds.length = fn.params.toList.length ∧ ∃ avs : List AV, avs.length = args.toList.length ∧ (∀ i x, avs[i]? = some x → VR (VZ W) x (args.toList.getD i undef)) ∧ Args C.prog m fn.params.toList avs := by
    obtain ⟨p, q, hA, hV, hbf, hz, hn⟩ := hW
    exact args_of (fun t ht => (hts1 t ht).2) (fun j t v h g => hval j t v (by simpa using h) (by simpa using g)) hA
  obtain ⟨n, r, e, hr1, hr2⟩ := law avs h3
  have A : ASR (VZ W) avs args := ⟨by simpa using h1, fun i x hx => by have := h2 i x hx; simpa [List.getD, Array.getD_eq_getD_getElem?] using this⟩
  have hc := law_calls hp hmix A (R := fun r _ => r = .one (.sc (.bool true))) (fun _ _ h => h) hr1 hr2
  refine hc.mono (fun ed W' he => ?_)
  obtain ⟨rfl, hb⟩ := he
  refine ⟨_, rfl, law_post hl hvars hrt htb (fun t ht => (hts1 t ht).1) hW hb ?_⟩
  subst hgs
  rw [List.append_nil]
  exact hspec ds (by simpa using hdl)
end
end Go.AM
