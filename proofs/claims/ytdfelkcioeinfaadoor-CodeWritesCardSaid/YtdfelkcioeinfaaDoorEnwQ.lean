/- The engine, part Q: every operation. -/
import Derived.Test.YtdfelkcioeinfaaDoorEnwP
set_option linter.unusedVariables false
set_option linter.unusedSimpArgs false
namespace Go.Eng
open Go Go.RowKit

section
variable {Φ Ψ : Fr} {w w' w1 : World} {π : Pi} {P : Program} {h : List Blk} {slot : Nat} {v : V} {u : Upd}

theorem BR.isRow {Φ' : Fr} {π' : Pi} {A : At} {blk : Blk} (hi : blk.isRow = true) (hf : Φ false = Φ' false) (hb : BR Φ π w A blk) : BR Φ' π' w A blk := by
  cases blk <;> first
    | (simp [Blk.isRow] at hi; done)
    | (simp only [BR] at hb ⊢; rw [← hf]; exact hb)
theorem HR.news {F' : Fz} {π2 : Pi} {nb : List Blk} (hr : HR Φ w1 π h w) (hf : allFree h slot nb.length = true) (hrow : nb.all Blk.isRow = true) (hx : Fr.ext w.heap.size (only (Φ false)) (only F')) (hc : HR (only F') w π2 nb w') :
    ∃ Φ' π', (only F').le Φ' ∧ Fr.ext w1.heap.size Φ Φ' ∧ π.le π' ∧ HR Φ' w1 π' (setN h slot nb) w' ∧ ∀ b A, π2 b = some A → π' (slot + b) = some A := by
  let Φ' : Fr := fun x => if x then Φ true else F'
  have hxx : Fr.ext w.heap.size Φ Φ' := by
    refine ⟨fun x g off u hu => ?_, fun x g off u hu => ?_⟩
    · cases x
      · exact hx.le false g off u hu
      · exact hu
    · cases x
      · exact hx.new false g off u hu
      · exact .inl hu
  have hfz : ∀ x, FzOk (Φ' x) w' := by
    intro x
    cases x
    · exact hc.fz false
    · exact (hr.fz true).turn (Turn.below hc.below rfl (fun _ _ => False)) fun _ _ e => e.elim
  have hlive : ∀ k blk, nb[k]? = some blk → ∃ A, π2 k = some A ∧ BR (only F') π2 w' A blk ∧ blk.isRow = true := by
    intro k blk hb
    have hi : blk.isRow = true := by
      rw [List.all_eq_true] at hrow; exact hrow blk (List.mem_of_getElem? hb)
    obtain ⟨A, h1, h2⟩ := hc.live k blk hb (by intro e; subst e; cases hi)
    exact ⟨A, h1, h2, hi⟩
  have hAs : ∀ (k : Nat) (A : At), ((List.range nb.length).map fun k => (π2 k).getD ⟨0, 0, 0, 0, 0, 0, []⟩)[k]? = some A → k < nb.length ∧ π2 k = some A := by
    intro k A hA
    have hk : k < nb.length := by have := (List.getElem?_eq_some_iff.1 hA).1; simpa using this
    obtain ⟨A', h1, _⟩ := hlive k _ (List.getElem?_eq_getElem hk)
    simp [List.getElem?_map, List.getElem?_range hk, h1] at hA
    subst hA
    exact ⟨hk, h1⟩
  obtain ⟨π', h1, h2, h3⟩ := HR.newb (bs := nb) (As := (List.range nb.length).map fun k => (π2 k).getD ⟨0, 0, 0, 0, 0, 0, []⟩) hr (Turn.below hc.below rfl _) hxx hfz hf (by simp)
    (by
      intro k A hA g off hh
      obtain ⟨hk, hA⟩ := hAs k A hA
      obtain ⟨A', h1, _, h4⟩ := hlive k _ (List.getElem?_eq_getElem hk)
      rw [hA] at h1; cases h1
      obtain ⟨q1, q2, q3⟩ := hc.own k _ A (List.getElem?_eq_getElem hk) (by revert h4; generalize nb[k] = q; cases q <;> simp [Blk.isRow, Blk.owns]) hA g off hh
      refine ⟨q1, q2, fun x => ?_⟩
      cases x
      · exact q3 false
      · exact hr.newFz q1 true)
    (by
      intro i j A A' hi hj hij g off hh
      obtain ⟨hk, hA⟩ := hAs i A hi
      obtain ⟨hk', hA'⟩ := hAs j A' hj
      obtain ⟨_, _, _, h4⟩ := hlive i _ (List.getElem?_eq_getElem hk)
      obtain ⟨_, _, _, h4'⟩ := hlive j _ (List.getElem?_eq_getElem hk')
      exact hc.apart i j _ _ A A' (List.getElem?_eq_getElem hk) (by revert h4; generalize nb[i] = q; cases q <;> simp [Blk.isRow, Blk.owns]) (List.getElem?_eq_getElem hk') (by revert h4'; generalize nb[j] = q; cases q <;> simp [Blk.isRow, Blk.owns]) hij hA hA' g off hh)
    (by
      intro π' _ _ k blk A hb hA
      obtain ⟨hk, hA⟩ := hAs k A hA
      obtain ⟨A', h1, h5, h4⟩ := hlive k blk hb
      rw [hA] at h1; cases h1
      exact ⟨(by intro e; subst e; cases h4), BR.isRow (Φ := only F') (Φ' := Φ') h4 rfl h5⟩)
  refine ⟨Φ', π', fun x g off u hu => (by cases x with | false => exact hu | true => cases hu), hxx.mono hr.below.size, h1, h2, fun b A hA => ?_⟩
  have hb : b < nb.length := by
    rcases Nat.lt_or_ge b nb.length with h' | h'
    · exact h'
    · rw [hc.free b (.inl (List.getElem?_eq_none h'))] at hA; cases hA
  exact h3 b A (by simp [List.getElem?_map, List.getElem?_range hb, hA])

structure CfgOk (C : Cfg) : Prop where
  noGo : ∀ (g : FuncId) (fn : Func), C.P.funcs[g]? = some fn → (fn.name == "runtime.NumGoroutine") = false
  spec : ∀ g sp, C.spec g = some sp → SpecOk C.P g sp
  mixed : C.P.follows .mixedOrders = true
  packs : C.np = true → (C.P.cutTypes.toList.all fun c => C.P.ownRow c) = true

theorem VRL.map {ρ : Operand → V} {ρ' : Operand → Value} : ∀ (l : List Operand), (∀ x ∈ l, VR Φ π (ρ x) (ρ' x)) → VRL Φ π (l.map ρ) (l.map ρ')
  | [], _ => by simp [VRL]
  | x :: l, h => by simp only [List.map, VRL]; exact ⟨h x (by simp), VRL.map l fun y hy => h y (by simp [hy])⟩

theorem call_run {C : Cfg} (hC : CfgOk C) {g : FuncId} (hb : bodyB C.P g = true) (args : Array Value) (w : World) : (callFunc g args).run C.P w = .ok (.enter g args) w := by
  unfold bodyB at hb
  cases hf : C.P.funcs[g]? with
  | none => simp [hf] at hb
  | some fn =>
    have h1 := hC.noGo g fn hf
    have h2 : fn.body.isNone = false := by
      rw [hf] at hb
      cases hx : fn.body with
      | none => simp [hx] at hb
      | some c => rfl
    simp only [callFunc, Sem.run_bind, run_program, Result.andThen_ok, hf, h1, h2, Bool.false_eq_true, if_false, Sem.run_pure]

theorem find_typeOf {fn : Func} (h1 : fn.name = "internal/reflectlite.TypeOf") (h2 : fn.origin = "") : Extern.findNext fn = none ∧ Extern.find fn = some Extern.ReflectliteType.typeOf := by
  unfold Extern.findNext Extern.find
  simp only [h1, h2]
  constructor
  · have e1 : Extern.allNextRows.lookup "internal/reflectlite.TypeOf" = none := by kernel_rfl
    have e2 : Extern.allNextRows.lookup "" = none := by kernel_rfl
    simp [e1, e2]
  · have e1 : Extern.allGenericRows.lookup "internal/reflectlite.TypeOf" = none := by kernel_rfl
    have e2 : Extern.allTypedRows.lookup "internal/reflectlite.TypeOf" = none := by kernel_rfl
    have e3 : Extern.allRows.lookup "internal/reflectlite.TypeOf" = some Extern.ReflectliteType.typeOf := by kernel_rfl
    simp [e1, e2, e3]
theorem find_comparable {fn : Func} (h1 : fn.name = "(internal/reflectlite.rtype).Comparable") (h2 : fn.origin = "") : Extern.findNext fn = none ∧
    Extern.find fn = some (Extern.ReflectliteType.method fun t => do Extern.Rtype.noPackHeld "Comparable" t; pure (.bool (← typeInfo t).comparable)) := by
  unfold Extern.findNext Extern.find
  simp only [h1, h2]
  constructor
  · have e1 : Extern.allNextRows.lookup "(internal/reflectlite.rtype).Comparable" = none := by kernel_rfl
    have e2 : Extern.allNextRows.lookup "" = none := by kernel_rfl
    simp [e1, e2]
  · have e1 : Extern.allGenericRows.lookup "(internal/reflectlite.rtype).Comparable" = none := by kernel_rfl
    have e2 : Extern.allTypedRows.lookup "(internal/reflectlite.rtype).Comparable" = none := by kernel_rfl
    have e3 : Extern.allRows.lookup "(internal/reflectlite.rtype).Comparable" = some (Extern.ReflectliteType.method fun t => do Extern.Rtype.noPackHeld "Comparable" t; pure (.bool (← typeInfo t).comparable)) := by kernel_rfl
    simp [e1, e2, e3]
theorem ofHandle_run (P : Program) (t : TypeId) (w : World) : (Extern.Rtype.ofHandle (pv P.globals.size t)).run P w = .ok t w := by
  simp [Extern.Rtype.ofHandle, Sem.run_bind, run_program, Result.andThen_ok, handleType, pv, Sem.run_pure]
theorem noPack_run {P : Program} (s : String) {t : TypeId} (h : P.packed t = false) (w : World) : (Extern.Rtype.noPack s t).run P w = .ok () w := by
  simp [Extern.Rtype.noPack, Sem.run_bind, run_program, Result.andThen_ok, h, Sem.run_pure]
theorem noPackHeld_run {P : Program} (s : String) {t : TypeId} (h : P.holdsPacked P.depth t = false) (w : World) : (Extern.Rtype.noPackHeld s t).run P w = .ok () w := by
  simp [Extern.Rtype.noPackHeld, Sem.run_bind, run_program, Result.andThen_ok, h, Sem.run_pure]
theorem packed_no {P : Program} (h : (P.cutTypes.toList.all fun c => P.ownRow c) = true) (t : TypeId) : P.packed t = false := by
  unfold Program.packed Program.packedAs
  rw [Bool.not_eq_false', List.isEmpty_iff, List.map_eq_nil_iff, List.filter_eq_nil_iff]
  intro c hc
  rw [List.all_eq_true] at h
  simp [h c hc]
theorem holds_no {P : Program} (h : (P.cutTypes.toList.all fun c => P.ownRow c) = true) {t : TypeId} (ht : plainDesc (P.underlying t) = true) (hd : 0 < P.depth) : P.holdsPacked P.depth t = false := by
  obtain ⟨d, hd⟩ : ∃ d, P.depth = d + 1 := ⟨P.depth - 1, by omega⟩
  rw [hd, Program.holdsPacked, packed_no h]
  revert ht
  cases P.underlying t with
  | none => simp [plainDesc]
  | some x => cases x <;> simp [plainDesc]
theorem ext_run {C : Cfg} (hC : CfgOk C) {g : FuncId} {fn : Func} (hf : C.P.funcs[g]? = some fn) (hb : bodyB C.P g = false) {args : List V} {cargs : Array Value} (ha : VRL Φ π args cargs.toList)
    (he : EffTo C.P slot h (extAct C.np C.P fn args) v u) (w : World) : u = .no ∧ ∃ cv, (callFunc g cargs).run C.P w = .ok (.value cv) w ∧ VR Φ π v cv := by
  have h1 := hC.noGo g fn hf
  have h2 : fn.body.isNone = true := by
    unfold bodyB at hb
    rw [hf] at hb
    cases hx : fn.body with
    | none => rfl
    | some c => simp [hx] at hb
  have hcall : ∀ {f : Array Value → Sem Value} {cv : Value}, Extern.findNext fn = none → Extern.find fn = some f → (f cargs).run C.P w = .ok cv w → (callFunc g cargs).run C.P w = .ok (.value cv) w := by
    intro f cv e1 e2 e3
    have h3 : fn.name ≠ "runtime.NumGoroutine" := by simpa using h1
    have h4 : fn.body = none := by simpa using h2
    simp [callFunc, Sem.run_bind, run_program, Result.andThen_ok, hf, h3, h4, e1, e2, e3, Sem.run_pure, Go.mark, Sem.run]
  unfold extAct at he
  split at he
  · rename_i hn
    simp only [Bool.and_eq_true, beq_iff_eq] at hn
    obtain ⟨e1, e2⟩ := find_typeOf hn.1 hn.2
    split at he
    · rename_i t x nm rt hfi
      obtain ⟨rfl, rfl⟩ := he
      obtain ⟨c, m, hm, hx, hnil⟩ := VRL.cons ha
      have := VRL.nil hnil; subst this
      have hxs : cargs = #[c] := by
        apply Array.ext'; simpa using hm
      simp only [VR] at hx
      obtain ⟨c0, rfl, hx⟩ := hx
      refine ⟨rfl, _, hcall (cv := .iface rt (.agg #[typeHandle C.P t])) e1 e2 ?_, ?_⟩
      · have e : Extern.ReflectliteType.typeOf #[.iface t c0] = Extern.ReflectliteType.toType t := rfl
        simp [hxs, e, Extern.ReflectliteType.toType, Extern.Rtype.handle, cutType, Sem.run_bind, run_program, Result.andThen_ok, Sem.run_pure, hfi]
      · simp [VR, VRL, typeHandle, pv]
    · exact he.elim
  · split at he
    · rename_i hn
      simp only [Bool.and_eq_true, beq_iff_eq] at hn
      obtain ⟨e1, e2⟩ := find_comparable hn.1 hn.2
      split at he
      · rename_i b t
        split at he
        · rename_i hbt
          simp only [Bool.and_eq_true, beq_iff_eq, decide_eq_true_eq] at hbt
          obtain ⟨hnp, rfl, hpd, hd0⟩ := hbt
          have hp := packed_no (hC.packs hnp) t
          have hh := holds_no (hC.packs hnp) hpd hd0
          split at he
          · rename_i i hi
            obtain ⟨rfl, rfl⟩ := he
            obtain ⟨c, m, hm, hx, hnil⟩ := VRL.cons ha
            have := VRL.nil hnil; subst this
            have hxs : cargs = #[c] := by
              apply Array.ext'; simpa using hm
            simp only [VR] at hx
            obtain ⟨cs, rfl, hx⟩ := hx
            obtain ⟨c', m', hm', hx', hnil'⟩ := VRL.cons hx
            have := VRL.nil hnil'; subst this
            have hcs : cs = #[c'] := by
              apply Array.ext'; simpa using hm'
            simp only [VR] at hx'
            subst hx' hcs hxs
            refine ⟨rfl, _, hcall (cv := .bool i.comparable) e1 e2 ?_, by simp [VR]⟩
            have e : (Extern.ReflectliteType.method fun t => do Extern.Rtype.noPackHeld "Comparable" t; pure (.bool (← typeInfo t).comparable)) #[.agg #[pv C.P.globals.size t]] =
              (do (fun t => do Extern.Rtype.noPackHeld "Comparable" t; pure (.bool (← typeInfo t).comparable)) (← (do
                let t ← Extern.Rtype.ofHandle (pv C.P.globals.size t)
                Extern.Rtype.noPack "a Type asked or handed on" t
                pure t))) := rfl
            rw [e]
            simp only [Sem.run_bind, ofHandle_run, Result.andThen_ok, noPack_run _ hp, noPackHeld_run _ hh, typeInfo, run_program, hi, Sem.run_pure]
          · exact he.elim
        · exact he.elim
      · exact he.elim
    · exact he.elim
theorem enter_sound {C : Cfg} (hC : CfgOk C) {a : Go.Act} {o : Oper} {g : FuncId} {args : List V} {cargs : Array Value} (hr : HR Φ w1 π h w) (ha : VRL Φ π args cargs.toList)
    (hrun0 : ∀ nx, (callFunc g cargs).run C.P w = .ok nx w → (execOp a.eval o).run C.P w = .ok nx w) (he : EffTo C.P slot h (enterAct C g args h) v u) : Good C.P o a w (Post Φ w1 π h v u) := by
  unfold enterAct at he
  split at he
  · rename_i hb
    have hb' : bodyB C.P g = false := by cases hx : bodyB C.P g <;> simp_all
    split at he
    · exact he.elim
    · split at he
      · rename_i fn hf
        obtain ⟨rfl, cv, h1, h2⟩ := ext_run hC hf hb' ha he w
        exact Good.value (c := cv) (w' := w) (hrun0 _ h1) (Post.mk (Pi.le_refl _) hr h2)
      · exact he.elim
  rename_i hb
  have hb' : bodyB C.P g = true := by cases hx : bodyB C.P g <;> simp_all
  have hrun : bodyB C.P g = true → (execOp a.eval o).run C.P w = .ok (.enter g cargs) w := fun h => hrun0 _ (call_run hC h _ w)
  have hrun' := hrun hb'
  have doCall : ∀ {sp : Spec} {args' : List V}, VRL (lend (Φ false) w) (fun _ => none) args' cargs.toList → EffTo C.P slot h (.call g sp args') v u → Good C.P o a w (Post Φ w1 π h v u) := by
    intro sp args' ha' he
    obtain ⟨v0, nb, ⟨hrow, hcall⟩, hlen, hfree, rfl, rfl⟩ := he
    refine Good.enter hrun' ((hcall (Φ false) w cargs (hr.fz false) (hr.base.below hr.below) ha').mono ?_)
    rintro e w' ⟨cv, F', π2, rfl, hx, hc, hv⟩
    obtain ⟨Φ', π', hF, h1, h2, h3, h4⟩ := hr.news (by rw [hlen]; exact hfree) hrow hx hc
    exact ⟨cv, rfl, Φ', π', h1, h2, by simpa [Upd.on] using h3, VR.mono hF (Pi.le_refl _) (VR.shift h4 hv)⟩
  split at he
  · rename_i sp hsp
    split at he
    · rename_i hn
      have hn' : V.refsL args = [] := by simpa using hn
      exact doCall (VRL.noRefs hn' (VRL.mono hr.lend_le (Pi.le_refl _) ha)) he
    · split at he
      · rename_i hn
        exact doCall (lend_views hr ha (by simpa using hn)) he
      · split at he
        · exact he.elim
        obtain ⟨h', hent, rfl⟩ := he
        refine Good.enter hrun' ((hent Φ w1 w π _ hr ha).mono ?_)
        rintro e w' ⟨cv, Φ', π', rfl, h1, h2, h3, h4⟩
        exact ⟨cv, rfl, Φ', π', h1, h2, by simpa [Upd.on] using h3, h4⟩
  · obtain ⟨h', hent, rfl⟩ := he
    refine Good.enter hrun' ((hent Φ w1 w π _ hr ha).mono ?_)
    rintro e w' ⟨cv, Φ', π', rfl, h1, h2, h3, h4⟩
    exact ⟨cv, rfl, Φ', π', h1, h2, by simpa [Upd.on] using h3, h4⟩

theorem method_run {t : TypeId} {name : String} {g : FuncId} (hm : methodB P t name = some g) (v : Value) (n : Nat) (w : World) : (method (n + 1) t v name).run P w = .ok (g, v) w := by
  unfold methodB at hm
  cases hi : P.info? t with
  | none => simp [hi] at hm
  | some i =>
    rw [hi] at hm
    simp only at hm
    cases hf : i.methods.find? (·.name == name) with
    | none => simp [hf] at hm
    | some m =>
      rw [hf] at hm
      simp only at hm
      split at hm
      · rename_i hp
        have hpath : m.path.toList = [] := by simpa using hp
        simp only [method, Sem.run_bind, typeInfo, run_program, Result.andThen_ok, hi, Sem.run_pure, hf, hpath, follow]
        split at hm
        · rename_i f e h1 h2
          cases hm
          simp [h1, receiverAt, run_underlying h2, Place.get]
        · cases hm
        · rename_i _ _ f d hnp h1 h2
          cases hm
          simp only [h1, Sem.run_bind, receiverAt, run_underlying h2, Result.andThen_ok]
          cases d <;> first
            | exact absurd h2 (hnp _)
            | exact absurd rfl (hnp _)
            | rfl
        · cases hm
      · cases hm

theorem callAct_sound {C : Cfg} (hC : CfgOk C) {a : Go.Act} {o : Oper} {f : V} {fo : Operand} {xs : Array Operand} {ts : Array TypeId} {args : List V} (ho : o.op = .call { callee := .value fo, args := xs, argTypes := ts })
    (hr : HR Φ w1 π h w) (hf : VR Φ π f (a.eval fo)) (ha : VRL Φ π args (xs.toList.map a.eval)) (he : EffTo C.P slot h (callAct C f args h) v u) : Good C.P o a w (Post Φ w1 π h v u) := by
  have hexec : execOp a.eval o = (do let d ← resolve a.eval { callee := .value fo, args := xs, argTypes := ts } o.type; invoke d.target d.args) := by simp only [execOp, ho]
  unfold callAct at he
  split at he
  · rename_i g cap
    simp only [VR] at hf
    obtain ⟨cs, hfv, hcs⟩ := hf
    refine enter_sound hC (cargs := #[] ++ xs.map a.eval ++ cs) hr ?_ (fun nx hb => ?_) he
    · simp only [Array.toList_append, Array.toList_map]
      exact VRL.append ha hcs
    · rw [hexec]
      simp only [resolve, hfv, Deferred.ofValue, pure_bind, invoke]
      exact hb
  · rename_i t name
    simp only [VR] at hf
    split at he
    · exact he.elim
    · rename_i r rest d hnot hd
      split at he
      · rename_i g hg
        obtain ⟨c0, m, hm, h1, h2⟩ := VRL.cons ha
        have hxs : xs.map a.eval = (c0 :: m).toArray := by
          apply Array.ext'; simpa using hm
        refine enter_sound hC (cargs := (c0 :: m).toArray) hr (by simpa [VRL] using ⟨h1, h2⟩) (fun nx hb => ?_) he
        rw [hexec]
        have hmr := method_run hg c0 (C.P.types.size + 99) w
        simp only [resolve, hf, Deferred.ofValue, pure_bind, invoke, hxs]
        simp only [Array.empty_append, List.getElem?_toArray, List.getElem?_cons_zero, Sem.run_bind, run_underlying hd, Result.andThen_ok]
        have hcm : (callMethod (.iface t c0) name ((c0 :: m).toArray.extract 1 (c0 :: m).toArray.size)).run C.P w = .ok nx w := by
          have e : #[c0] ++ (c0 :: m).toArray.extract 1 (c0 :: m).toArray.size = (c0 :: m).toArray := by
            apply Array.ext'; simp
          have hdep : C.P.types.size + Made.depth = C.P.types.size + 99 + 1 := rfl
          simp only [callMethod, Sem.run_bind, run_program, Result.andThen_ok, hdep, hmr, e]
          exact hb
        cases d <;> first
          | exact absurd hd (hnot _)
          | exact absurd rfl (hnot _)
          | exact hcm
      · exact he.elim
    · exact he.elim
  · exact he.elim
theorem invokeAct_sound {C : Cfg} (hC : CfgOk C) {a : Go.Act} {o : Oper} {f : V} {fo : Operand} {name : String} {xs : Array Operand} {ts : Array TypeId} {args : List V} (ho : o.op = .call { callee := .invoke fo name, args := xs, argTypes := ts })
    (hr : HR Φ w1 π h w) (hf : VR Φ π f (a.eval fo)) (ha : VRL Φ π args (xs.toList.map a.eval)) (he : EffTo C.P slot h (invokeAct C f name args h) v u) : Good C.P o a w (Post Φ w1 π h v u) := by
  have hexec : execOp a.eval o = (do let d ← resolve a.eval { callee := .invoke fo name, args := xs, argTypes := ts } o.type; invoke d.target d.args) := by simp only [execOp, ho]
  unfold invokeAct at he
  split at he
  · rename_i t x
    simp only [VR] at hf
    obtain ⟨c0, hfv, h1⟩ := hf
    split at he
    · rename_i g hg
      refine enter_sound hC (cargs := #[c0] ++ xs.map a.eval) hr (by simpa [VRL] using ⟨h1, ha⟩) (fun nx hb => ?_) he
      rw [hexec]
      have hmr := method_run hg c0 (C.P.types.size + 99) w
      have hdep : C.P.types.size + Made.depth = C.P.types.size + 99 + 1 := rfl
      have e : (#[Value.iface t c0] ++ xs.map a.eval)[0]? = some (.iface t c0) := by
        rw [Array.getElem?_append_left (Nat.zero_lt_one)]; rfl
      have e2 : (#[Value.iface t c0] ++ xs.map a.eval).extract 1 = xs.map a.eval := by
        apply Array.ext'
        simp [List.take_of_length_le]
      simp only [resolve, pure_bind, invoke, hfv]
      rw [e]
      simp only [callMethod, Sem.run_bind, run_program, Result.andThen_ok, hdep, hmr]
      rw [e2]
      exact hb
    · exact he.elim
  · exact he.elim

theorem builtinAct_sound {C : Cfg} {a : Go.Act} {dst : Option Tmp} {b : Builtin} {xs : Array Operand} {ts : Array TypeId} {ty : TypeId} {pos : String} {after : Array Edge} {guard : Option (Nat × Bool)} {args : List V}
    (hr : HR Φ w1 π h w) (ha : VRL Φ π args (xs.toList.map a.eval)) (he : EffTo C.P slot h (builtinAct C.P b ts.toList args h) v u) :
    Good C.P { dst, op := .call { callee := .builtin b, args := xs, argTypes := ts }, type := ty, pos, after, guard } a w (Post Φ w1 π h v u) := by
  have same : ∀ {cv : Value}, u = .no → VR Φ π v cv → Post Φ w1 π h v u cv w := fun e hv => by subst e; exact Post.mk (Pi.le_refl _) hr hv
  unfold builtinAct at he
  split at he
  · rename_i t tr x hts
    obtain ⟨c, m, hm, hx, hnil⟩ := VRL.cons ha
    have := VRL.nil hnil; subst this
    have hxs : xs.map a.eval = #[c] := by
      apply Array.ext'; simpa using hm
    have ht : ts[0]? = some t := by rw [← Array.getElem?_toList, hts]; rfl
    obtain ⟨rfl, hg⟩ := len_sound (P := C.P) (ty := ty) (ts := ts) ht hx he
    obtain ⟨cv, h1, h2⟩ := hg w
    refine Good.value (c := cv) (w' := w) ?_ (same rfl h2)
    have : execOp a.eval { dst, op := .call { callee := .builtin .len, args := xs, argTypes := ts }, type := ty, pos, after, guard } = (do pure (.value (← Builtin.len_ ts ty (xs.map a.eval)))) := rfl
    rw [this, hxs]
    simp [h1]
  · rename_i x r
    obtain ⟨c, m, hm, hx, hrest⟩ := VRL.cons ha
    split at he
    · rename_i z hz
      obtain ⟨rfl, rfl⟩ := he
      obtain ⟨cz, hcz, hvz⟩ := fold_sound (P := C.P) (fun h1 h2 h3 => max2_sound h1 h2 h3) hx hrest hz
      refine Good.value (c := cz) (w' := w) ?_ (same rfl hvz)
      have e : execOp a.eval { dst, op := .call { callee := .builtin .max, args := xs, argTypes := ts }, type := ty, pos, after, guard } = (do pure (.value (← Builtin.max_ ts ty (xs.map a.eval)))) := rfl
      have : (xs.map a.eval).toList = c :: m := by simpa using hm
      rw [e]
      simp only [Builtin.max_, this, Sem.run_bind]
      simp [hcz]
    · exact he.elim
  · rename_i x r
    obtain ⟨c, m, hm, hx, hrest⟩ := VRL.cons ha
    split at he
    · rename_i z hz
      obtain ⟨rfl, rfl⟩ := he
      obtain ⟨cz, hcz, hvz⟩ := fold_sound (P := C.P) (fun h1 h2 h3 => min2_sound h1 h2 h3) hx hrest hz
      refine Good.value (c := cz) (w' := w) ?_ (same rfl hvz)
      have e : execOp a.eval { dst, op := .call { callee := .builtin .min, args := xs, argTypes := ts }, type := ty, pos, after, guard } = (do pure (.value (← Builtin.min_ ts ty (xs.map a.eval)))) := rfl
      have : (xs.map a.eval).toList = c :: m := by simpa using hm
      rw [e]
      simp only [Builtin.min_, this, Sem.run_bind]
      simp [hcz]
    · exact he.elim
  · rename_i t t2 tr s x hts
    obtain ⟨cs, m, hm, hs, hrest⟩ := VRL.cons ha
    obtain ⟨cx, m', hm', hx, hnil⟩ := VRL.cons hrest
    have := VRL.nil hnil; subst this
    subst hm'
    have hxs : xs.map a.eval = #[cs, cx] := by
      apply Array.ext'; simpa using hm
    have ht : ts[0]? = some t := by rw [← Array.getElem?_toList, hts]; rfl
    have ht2 : ts[1]? = some t2 := by rw [← Array.getElem?_toList, hts]; rfl
    obtain ⟨cv, w', h1, h2⟩ := append_sound (ty := ty) ht ht2 hr hs hx he
    refine Good.value (c := cv) (w' := w') ?_ h2
    have e : execOp a.eval { dst, op := .call { callee := .builtin .append, args := xs, argTypes := ts }, type := ty, pos, after, guard } = (do pure (.value (← Builtin.append_ ts ty (xs.map a.eval)))) := rfl
    rw [e, hxs]
    simp [h1]
  · rename_i t tr d x hts
    obtain ⟨cs, m, hm, hs, hrest⟩ := VRL.cons ha
    obtain ⟨cx, m', hm', hx, hnil⟩ := VRL.cons hrest
    have := VRL.nil hnil; subst this
    subst hm'
    have hxs : xs.map a.eval = #[cs, cx] := by
      apply Array.ext'; simpa using hm
    have ht : ts[0]? = some t := by rw [← Array.getElem?_toList, hts]; rfl
    obtain ⟨cv, w', h1, h2⟩ := copy_sound (ty := ty) ht hr hs hx he
    refine Good.value (c := cv) (w' := w') ?_ h2
    have e : execOp a.eval { dst, op := .call { callee := .builtin .copy, args := xs, argTypes := ts }, type := ty, pos, after, guard } = (do pure (.value (← Builtin.copy_ ts ty (xs.map a.eval)))) := rfl
    rw [e, hxs]
    simp [h1]
  · exact he.elim
end
end Go.Eng
