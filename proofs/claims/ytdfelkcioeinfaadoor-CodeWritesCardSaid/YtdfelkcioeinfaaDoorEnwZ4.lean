/- The engine, part Z4: functions that are entered within the caller's own memory, told by patterns: proofs. -/
import Derived.Test.YtdfelkcioeinfaaDoorEnwZ3
import Derived.Test.YtdfelkcioeinfaaDoorEnwA2
set_option linter.unusedVariables false
set_option linter.unusedSimpArgs false
namespace Go.Eng
open Go
theorem decE_enc {pa : List PV} {ph : List PB} {args : List V} {h : List Blk} {e : IE pa ph} (hd : decE pa ph args h = some e) : encE1 pa ph e = args ∧ encE2 pa ph e = h := by
  unfold decE at hd
  split at hd
  · rename_i d h2 he
    split at hd
    · rename_i e' h1 he'
      cases hd
      simp only [encE1, encE2, h1, h2, and_self]
    · cases hd
  · cases hd

/-- An entered function's word holds. -/
def ESpOk (P : Program) (g : FuncId) (sp : ESp) : Prop :=
  ∀ {R : Type} args h (k : V → List Blk → Option R) x r, sp.run args h k = some x → x = some r → ∃ v h', k v h' = some r ∧ EnterTo P g args h v h'
def ESOk (P : Program) (es : ES) : Prop := ∀ g sp, (g, sp) ∈ es → ESpOk P g sp
theorem esOk_nil {P : Program} : ESOk P [] := fun _ _ h => by cases h
theorem esOk_cons {P : Program} {es : ES} {g : FuncId} {sp : ESp} (h : ESOk P es) (hs : ESpOk P g sp) : ESOk P ((g, sp) :: es) := by
  intro g' sp' h'
  rcases List.mem_cons.1 h' with h' | h'
  · cases h'; exact hs
  · exact h g' sp' h'
theorem tryE_sound {P : Program} {R : Type} {g : FuncId} {args : List V} {h : List Blk} {k : V → List Blk → Option R} {dflt : Option R} {r : R}
    (hd : dflt = some r → ∃ v h', k v h' = some r ∧ EnterTo P g args h v h') : ∀ {es : ES}, ESOk P es → tryE g args h k dflt es = some r → ∃ v h', k v h' = some r ∧ EnterTo P g args h v h'
  | [], _, h1 => hd h1
  | (g', sp) :: l, ho, h1 => by
    have hl : ESOk P l := fun g sp h => ho g sp (List.mem_cons_of_mem _ h)
    simp only [tryE] at h1
    split at h1
    · rename_i hg
      have : g' = g := by simpa using hg
      subst this
      split at h1
      · rename_i x hx
        exact ho g' sp (List.mem_cons_self ..) args h k x r hx h1
      · exact tryE_sound hd hl h1
    · exact tryE_sound hd hl h1
theorem callE_ok {C : Cfg} (hC : CfgOk C) {es : ES} (he : ESOk C.P es) {R : Type} (fl : Nat) : ∀ d, RecOk C.P (callE (R := R) C es fl d)
  | 0 => by intro g args h k r he; cases he
  | d + 1 => by
    intro g args h k r h1
    exact tryE_sound (fun h2 => execFn_sound hC (callE_ok hC he fl d) g args h k r h2) he h1
theorem PB.encs_length : ∀ (ps : List PB) {l : List DT} (e : HD (PB.tys ps l)), (PB.encs ps e).1.length = ps.length
  | [], _, _ => rfl
  | p :: r, l, e => by simp only [PB.encs, List.length_cons, PB.encs_length r]
theorem encE2_length {pa : List PV} {ph : List PB} (e : IE pa ph) : (encE2 pa ph e).length = ph.length := PB.encs_length ph _
theorem gcE_sound {P : Program} {R : Type} {n0 : Nat} {g : FuncId} {args : List V} {h : List Blk} {k : V → List Blk → Option R} {v0 : V} {h0 : List Blk} {r : R} (hn : n0 = h.length)
    (h1 : gcE n0 k v0 h0 = some r) (h2 : EnterTo P g args h v0 h0) : ∃ v h', k v h' = some r ∧ EnterTo P g args h v h' := by
  unfold gcE at h1
  split at h1
  · rename_i s hs
    refine ⟨_, _, h1, fun Φ w1 w π cargs hr ha => (h2 Φ w1 w π cargs hr ha).mono ?_⟩
    rintro e w' ⟨cv, Φ', π', rfl, hx, hle, hr', hv⟩
    let a : Go.Act := ⟨#[cv], []⟩
    have hsr : SR Φ' w1 π' { t := [v0], o := [], h := h0 } a w' := by
      refine ⟨rfl, fun u => ?_, fun u g b v hu => by simp at hu, rfl, hr'⟩
      cases u with
      | zero => simpa [a] using hv
      | succ u => simp [VR]
    obtain ⟨π2, hle2, hs2⟩ := headF_sound hsr hs
    refine ⟨cv, Φ', π2, rfl, hx, ?_, hs2.hp, ?_⟩
    · intro b A hA
      by_cases hb : b < h.length
      · exact hle2 b A (hn ▸ hb) (hle b A hA)
      · rw [hr.free b (.inl (List.getElem?_eq_none (by omega)))] at hA; cases hA
    · have := hs2.tm 0
      simpa [a] using this
  · cases h1
theorem espOk_mk {C : Cfg} (hC : CfgOk C) {es : ES} (he : ESOk C.P es) {g : FuncId} {pa : List PV} {ph : List PB} {pr : PV} {pz : List PB} {F : FE pa ph pr pz} {fl d : Nat}
    (hF : ∀ (R : Type) (e : IE pa ph) (k : OE pr pz → Option R), execFn C fl (callE C es fl d) g (encE1 pa ph e) (encE2 pa ph e) (getE ph.length pr pz k) = F R e k) : ESpOk C.P g (mkE pa ph pr pz F) := by
  intro R args h k x r h1 h2
  subst h2
  simp only [mkE] at h1
  split at h1
  · rename_i e hd
    obtain ⟨e1, e2⟩ := decE_enc hd
    rw [← hF, e1, e2] at h1
    have h1 := Option.some.inj h1
    obtain ⟨v0, h0, h3, h4⟩ := execFn_sound hC (callE_ok hC he fl d) _ _ _ _ _ h1
    have hlen : h.length = ph.length := by rw [← e2]; exact encE2_length e
    obtain ⟨v, h', h3, h4⟩ := gcE_sound hlen.symm h3 h4
    unfold getP at h3
    split at h3
    · rename_i dd q2 hdd
      split at h3
      · rename_i z q1 hz
        refine ⟨v, h', ?_, h4⟩
        simp only [q1, q2] at h3
        exact h3
      · cases h3
    · cases h3
  · cases h1
theorem getP_some {R : Type} {pr : PV} {pz : List PB} {k : OE pr pz → Option R} {v : V} {h : List Blk} {r : R} (hg : getP pr pz k v h = some r) :
    ∃ z : OE pr pz, k z = some r ∧ (PV.enc (l := PB.tys pz []) pr z).1 = v ∧ (PB.encs (l := []) pz (PV.enc (l := PB.tys pz []) pr z).2).1 = h := by
  unfold getP at hg
  split at hg
  · rename_i dd q2 hdd
    split at hg
    · rename_i z q1 hz
      refine ⟨z, hg, ?_, ?_⟩
      · simp only [q1]
      · simp only [q1, q2]
    · cases hg
  · cases hg
theorem espOk_mk2 {C : Cfg} (hC : CfgOk C) {es : ES} (he : ESOk C.P es) {g : FuncId} {pa : List PV} {ph : List PB} {pr : PV} {pz : List PB} {pr' : PV} {pz' : List PB} {F : FE2 pa ph pr pz pr' pz'} {fl d : Nat}
    (hF : ∀ (R : Type) (e : IE pa ph) (k : OE pr pz → Option R) (k' : OE pr' pz' → Option R), execFn C fl (callE C es fl d) g (encE1 pa ph e) (encE2 pa ph e) (getE2 ph.length pr pz k pr' pz' k') = F R e k k') : ESpOk C.P g (mkE2 pa ph pr pz pr' pz' F) := by
  intro R args h k x r h1 h2
  subst h2
  simp only [mkE2] at h1
  split at h1
  · rename_i e hd
    obtain ⟨e1, e2⟩ := decE_enc hd
    rw [← hF, e1, e2] at h1
    have h1 := Option.some.inj h1
    obtain ⟨v0, h0, h3, h4⟩ := execFn_sound hC (callE_ok hC he fl d) _ _ _ _ _ h1
    have hlen : h.length = ph.length := by rw [← e2]; exact encE2_length e
    obtain ⟨v, h', h3, h4⟩ := gcE_sound hlen.symm h3 h4
    unfold getP2 at h3
    have tail : ∀ {r}, getP pr' pz' (fun z => k (PV.enc (l := PB.tys pz' []) pr' z).1 (PB.encs (l := []) pz' (PV.enc (l := PB.tys pz' []) pr' z).2).1) v h' = some r → k v h' = some r := by
      intro r hg
      obtain ⟨z, g1, g2, g3⟩ := getP_some hg
      simp only [g2, g3] at g1
      exact g1
    split at h3
    · rename_i dd q2 hdd
      split at h3
      · rename_i z q1 hz
        refine ⟨v, h', ?_, h4⟩
        simp only [q1, q2] at h3
        exact h3
      · exact ⟨v, h', tail h3, h4⟩
    · exact ⟨v, h', tail h3, h4⟩
  · cases h1
theorem specOkE_mk {C : Cfg} (hC : CfgOk C) {es : ES} (he : ESOk C.P es) {g : FuncId} {ps qs : List PT} {F : FT ps qs} {fl d : Nat}
    (hF : ∀ (R : Type) (x : PTs.D ps) (k : PTs.D qs → Option R), callE C es fl d g (encL true ps x) [] (getR qs k) = F R x k) : SpecOk C.P g (mkS ps qs F) := by
  intro R args k r h
  simp only [mkS] at h
  split at h
  · rename_i x hx
    rw [← hF] at h
    obtain ⟨v, h', h3, h4⟩ := callE_ok hC he fl d _ _ _ _ _ h
    unfold getR at h3
    split at h3
    · rename_i y hy
      have hle : ∀ (F : Fz) (w : World), FzOk F w → true = true → (lend F w false).le (lend F w true) := fun F w hz _ g off u hu => hz g off u hu
      refine ⟨_, _, h3, encR_rows qs y, fun F w cargs hz hB ha => ?_⟩
      · refine (h4 (lend F w) w w (fun _ => none) cargs (HR.start hz hB) (decL_sound (hle F w hz) hx ha)).mono ?_
        rintro e w' ⟨cv, Φ', π', rfl, hxx, _, hr, hv⟩
        obtain ⟨F', π2, q1, q2, q3⟩ := freeze hr hz hxx hy hv
        exact ⟨cv, F', π2, rfl, q1, q2, q3⟩
    · cases h3
  · cases h
/-- From a loop's head on, with entered functions told. -/
def callFromE {R : Type} (C : Cfg) (es : ES) (fl d n0 : Nat) (g : FuncId) (id n : Nat) (fs : List Nat) (so : Option S) (k : V → List Blk → Option R) : Option R :=
  match C.P.funcs[g]? with
  | none => none
  | some fn => match fn.body with
    | none => none
    | some c => execFrom C fl n0 g (callE C es fl d) (fn.results.toList.foldl (fun m r => match r with | .tmp t => m ||| 2 ^ t | .cell t _ => m ||| 2 ^ t) 0) id n so c [] 0 fs fun e s => match e with
      | .exit _ => none
      | _ => match results C.P fn s with
        | some v => k v s.h
        | none => none
end Go.Eng
