/-
  From runs of the abstract machine to contracts at a world of a row; the row's wrap with both a listed condition and the world's shape.
-/
import Derived.Test.YtfbnfdcbcobogaaGreatDoorAbI
import Derived.Handed
import Derived.HandedShaped
namespace Go.Ab
open Go.RowKit

theorem start_inv (W w : World) (hB : Below W.heap.size W w) : Inv W (fun _ => none) (fun _ => False) (fun _ => False) Hp.empty w where
  base := hB
  dom _ _ e := by cases e
  blk _ _ _ e := by cases e
  inj _ _ _ _ _ e := by cases e
  own _ e := e.elim
  lent _ e := e.elim

theorem below_of {W w w' : World} {ρ : Nat → Option Nat} {O : Nat → Prop} {h : Hp} (I : Inv W ρ O (fun _ => False) h w') (hB : Below W.heap.size W w) (E : Ext (fun _ => none) (fun _ => False) (fun _ => False) w ρ O (fun _ => False) w') : Below w.heap.size w w' :=
  ⟨I.base.os.trans hB.os.symm, I.base.tape.trans hB.tape.symm, I.base.output.trans hB.output.symm, E.size, fun k hk => E.old k hk (fun e => e)⟩

/-- A run of the abstract machine from the empty heap, as a contract at whatever later world. -/
theorem run_calls {C : Ctx} {W : World} {call : FuncId → List AV → Hp → Option (AV × Hp)} (H : Callees C W call) {f : FuncId} (hf : f ≠ rndF) {args : List AV} {r : AV} {h' : Hp} (h : call f args Hp.empty = some (r, h'))
    {w : World} (hB : Below W.heap.size W w) {vs : List Value} (hv : VRs (fun _ => False) (fun _ => False) w (fun _ => none) args vs) :
    Calls C.P f vs.toArray w fun e w' => (∃ v ρ' O', e = .returned v ∧ VR O' (fun _ => False) w' ρ' r v) ∧ Below w.heap.size w w' := by
  refine (H.ok f hf _ _ _ _ h _ _ _ w vs (start_inv W w hB) hv).mono ?_
  rintro e w' ⟨v, ρ', O', rfl, I, hr, E⟩
  exact ⟨⟨v, ρ', O', rfl, hr⟩, below_of I hB E⟩

/-- The same where the result is plain data. -/
theorem run_plain {C : Ctx} {W : World} {call : FuncId → List AV → Hp → Option (AV × Hp)} (H : Callees C W call) {f : FuncId} (hf : f ≠ rndF) {args : List AV} {r : AV} {h' : Hp} (h : call f args Hp.empty = some (r, h'))
    {w : World} (hB : Below W.heap.size W w) {vs : List Value} (hv : toVs args = some vs) {u : Value} (hr : toV r = some u) :
    Calls C.P f vs.toArray w fun e w' => e = .returned u ∧ Below w.heap.size w w' := by
  refine (run_calls H hf h hB (VRs_toVs _ _ hv)).mono ?_
  rintro e w' ⟨⟨v, ρ', O', rfl, hv⟩, hB'⟩
  rw [toV_VR _ _ _ hr hv]
  exact ⟨rfl, hB'⟩

section
variable {H : Type} {enc : TypeId × Value → H}
theorem returnsInHanded_and_shaped {a : Assume} {C : Checked} {os : Os} {f : FuncId} {fn : Func} {s : ChangeSpec} {conds : List PathCond} {apart fresh handsOn again : Bool} {X : World → Array Value → Prop}
    (hX : ∀ (w w' : World) (args : Array Value), w.heap = w'.heap → X w args → X w' args)
    (own : ownKnob C.prog.godebug = none) (started : os.Started) (noInit : C.prog.inits.idxOf? f = none) (hfn : C.prog.funcs[f]? = some fn)
    (witness : ∃ (w : World) (tape : Tape) (i : Input), w.os = os ∧ (w.forCall tape i).Shaped C.prog ∧ i.vars = [] ∧ Input.okWide C.prog (w.forCall tape i) .any w.heap.size f i ∧
      ((s.pre enc C.prog fn conds apart (w.forCall tape i).memory i.args ∧ X (w.forCall tape i).memory i.args) ∧ sizedMet enc C.prog fn (OpenSpec.ofChange s) apart (w.forCall tape i).memory i.args) ∧ a.holds C.prog (lone (Frame.enter C.prog f i.args .normal) [] (w.forCall tape i)))
    (contract : ∀ (W : World) (base : Nat) (args : Array Value) (ds gs : List (DataW H)) (before : List MemPlace),
      (∀ (j : Nat) t v, fn.params[j]? = some t → args[j]? = some v → Value.okWide C.prog W .any base t v) →
      DataW.Whole enc C.prog fn.params.toList s.vars apart W args.toList ds gs before →
      conds.all (PathCond.test C.prog ⟨fn.params.toList, ds, s.plain.varTypes C.prog, gs⟩) = true →
      (DataW.weightsEach C.prog (fn.params.toList ++ s.plain.varTypes C.prog) (ds ++ gs)).all (· ≤ reachBytes) = true → X W args → W.ShapedOpen C.prog →
      a.holds C.prog (lone (Frame.enter C.prog f args .normal) [] W) →
      Calls C.prog f args W fun e W' => ∃ v, e = .returned v ∧ s.post enc C.prog fn apart fresh handsOn again W args v W') :
    ReturnsInHanded a C os f .any (fun w args => (s.pre enc C.prog fn conds apart w args ∧ X w args) ∧ sizedMet enc C.prog fn (OpenSpec.ofChange s) apart w args) (s.post enc C.prog fn apart fresh handsOn again) := by
  refine returnsInHanded_of_calls own started noInit witness ?_
  intro w tape i _ hsh _ hok hpre hholds
  obtain ⟨_, _, _, fn', hfn', _, _, _, _, hval⟩ := hok
  have e : fn' = fn := Option.some.inj (hfn'.symm.trans hfn)
  subst e
  obtain ⟨⟨⟨ds, gs, before, hw, hc⟩, hx⟩, hz⟩ := hpre
  have hw' := DataW.Whole.of_heap (w' := w.forCall tape i) (by rfl) hw
  refine (contract (w.forCall tape i) w.heap.size i.args ds gs before hval hw' hc (hz.weights hw) (hX _ _ _ (by rfl) hx) hsh hholds).mono fun e W' ⟨v, he, hp⟩ => ?_
  subst he
  exact ChangeSpec.post_blind hp
end

/-- A listed variable's reading. -/
theorem laid_mem {P : Program} {w : World} : ∀ {l : List (String × DataW Unit)} {ps : List MemPlace}, DataW.LaidVars P w l ps → ∀ n d, (n, d) ∈ l →
    ∃ g t cs fuel p, P.globalNamed n = some g ∧ (P.globals[g]?).map (·.type) = some t ∧ w.var? P n = some cs ∧ DataW.trod (fun _ => ()) P w 0 (fun _ => true) false fuel t cs.toList = some (d, p) := by
  intro l
  induction l with
  | nil => intro ps _ n d h; cases h
  | cons x l ih =>
    intro ps h n d hm
    obtain ⟨n0, d0⟩ := x
    obtain ⟨g, t, cs, fuel, p, q, h1, h2, h3, h4, h5, _⟩ := h
    rcases List.mem_cons.1 hm with e | e
    · injection e with e1 e2
      subst e1 e2
      exact ⟨g, t, cs, fuel, p, h1, h2, h3, h4⟩
    · exact ih h5 n d e
theorem laid_glob {P : Program} {W : World} {l : List (String × DataW Unit)} {ps : List MemPlace} (h : DataW.LaidVars P W l ps) {name : String} {d : DataW Unit} (hm : (name, d) ∈ l) {g t n : Nat} (hg : P.globalNamed name = some g) (ht : (P.globals[g]?).map (·.type) = some t)
    {xs : List AV} (ha : avs P n t d = some xs) : VR (fun _ => False) (fun _ => False) W (fun _ => none) (.tptr true xs) (.pointer (some ⟨g, 0, none⟩)) := by
  obtain ⟨g', t', cs, fuel, p, h1, h2, h3, h4⟩ := laid_mem h name d hm
  obtain rfl := Option.some.inj (hg.symm.trans h1)
  obtain rfl := Option.some.inj (ht.symm.trans h2)
  exact laid_VR hg h3 h4 ha
end Go.Ab
