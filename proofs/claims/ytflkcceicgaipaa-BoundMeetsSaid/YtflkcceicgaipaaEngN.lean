/- The engine, part N: functions of plain data, by their types. -/
import Derived.Test.YtflkcceicgaipaaEngM
set_option linter.unusedVariables false
set_option linter.unusedSimpArgs false
namespace Go.Eng
open Go Go.RowKit

section
variable {w0 : World} {π π' : Pi}
theorem decC_sound {R : Type} {r : R} : ∀ (t : Ty) (l : List V) (f : t.D → List V → Option R), decC t l f = some r →
    ∃ x l', f x l' = some r ∧ ∀ (w0 : World) (π : Pi) (cs : List Value), VRL w0 π l cs → ∃ c1 c2, cs = c1 ++ c2 ∧ (∀ π', VRL w0 π' (toVs t x) c1) ∧ VRL w0 π l' c2
  | .int k, [], f, h => by simp [decC] at h
  | .bool, [], f, h => by simp [decC] at h
  | .str, [], f, h => by simp [decC] at h
  | .slice t, [], f, h => by simp [decC] at h
  | .int k, v :: l, f, h => by
    simp only [decC] at h
    split at h
    · rename_i k' n
      split at h
      · rename_i hk; subst hk
        refine ⟨n, l, h, fun w0 π cs hv => ?_⟩
        obtain ⟨c, m, rfl, hc, hm⟩ := VRL.cons hv
        simp only [VR] at hc
        exact ⟨[c], m, rfl, fun π' => by simp only [toVs, VRL, VR, and_true]; exact hc, hm⟩
      · cases h
    · cases h
  | .bool, v :: l, f, h => by
    simp only [decC] at h
    split at h
    · rename_i b
      refine ⟨b, l, h, fun w0 π cs hv => ?_⟩
      obtain ⟨c, m, rfl, hc, hm⟩ := VRL.cons hv
      simp only [VR] at hc
      exact ⟨[c], m, rfl, fun π' => by simp only [toVs, VRL, VR, and_true]; exact hc, hm⟩
    · cases h
  | .str, v :: l, f, h => by
    simp only [decC] at h
    split at h
    · rename_i b
      refine ⟨b, l, h, fun w0 π cs hv => ?_⟩
      obtain ⟨c, m, rfl, hc, hm⟩ := VRL.cons hv
      simp only [VR] at hc
      exact ⟨[c], m, rfl, fun π' => by simp only [toVs, VRL, VR, and_true]; exact hc, hm⟩
    · cases h
  | .unit, l, f, h => by
    cases l <;> exact ⟨(), _, by simpa only [decC] using h, fun w0 π cs hv => ⟨[], cs, rfl, fun π' => by simp [toVs, VRL], hv⟩⟩
  | .prod a b, l, f, h => by
    have h' : decC a l (fun x l' => decC b l' fun y l'' => f (x, y) l'') = some r := by cases l <;> simpa only [decC] using h
    obtain ⟨x, l1, h1, h2⟩ := decC_sound a l _ h'
    obtain ⟨y, l2, h3, h4⟩ := decC_sound b l1 _ h1
    refine ⟨(x, y), l2, h3, fun w0 π cs hv => ?_⟩
    obtain ⟨c1, c2, rfl, h5, h6⟩ := h2 w0 π cs hv
    obtain ⟨c3, c4, rfl, h7, h8⟩ := h4 w0 π c2 h6
    exact ⟨c1 ++ c3, c4, by simp, fun π' => VRL.append (h5 π') (h7 π'), h8⟩
  | .slice t, v :: l, f, h => by
    simp only [decC] at h
    split at h
    · rename_i t' xs
      split at h
      · rename_i ht; subst ht
        refine ⟨xs, l, h, fun w0 π cs hv => ?_⟩
        obtain ⟨c, m, rfl, hc, hm⟩ := VRL.cons hv
        simp only [VR] at hc
        exact ⟨[c], m, rfl, fun π' => by simp only [toVs, VRL, VR, and_true]; exact hc, hm⟩
      · cases h
    · refine ⟨[], l, h, fun w0 π cs hv => ?_⟩
      obtain ⟨c, m, rfl, hc, hm⟩ := VRL.cons hv
      simp only [VR] at hc
      subst hc
      exact ⟨[_], m, rfl, fun π' => by simp [toVs, VRL, VR, TR]; exact ⟨none, 0, ⟨rfl, rfl⟩, by simp [maxLen]⟩, hm⟩
    · cases h
theorem toVs_length : ∀ (t : Ty) (x : t.D), (toVs t x).length = t.size
  | .int _, _ => rfl
  | .bool, _ => rfl
  | .str, _ => rfl
  | .unit, _ => rfl
  | .prod a b, x => by simp [toVs, Ty.size, toVs_length a, toVs_length b]
  | .slice _, _ => rfl
theorem decP_sound {R : Type} {r : R} (p : PT) (v : V) (f : p.D → Option R) (h : decP p v f = some r) :
    ∃ x, f x = some r ∧ ∀ (w0 : World) (π π' : Pi) (c : Value), VR w0 π v c → VR w0 π' (encP p x) c := by
  cases p with
  | one t =>
    simp only [decP] at h
    obtain ⟨x, l, h1, h2⟩ := decC_sound t _ _ h
    split at h1
    · refine ⟨x, h1, fun w0 π π' c hv => ?_⟩
      obtain ⟨c1, c2, h3, h4, h5⟩ := h2 w0 π [c] (by simp only [VRL, and_true]; exact hv)
      have := VRL.nil h5; subst this
      simp at h3; subst h3
      have h6 := h4 π'
      simp only [encP]
      split
      · rename_i v' he
        rw [he] at h6
        simpa [VRL] using h6
      · simp [VR]
    · cases h1
  | agg t =>
    simp only [decP] at h
    split at h
    · rename_i l
      obtain ⟨x, l', h1, h2⟩ := decC_sound t _ _ h
      split at h1
      · refine ⟨x, h1, fun w0 π π' c hv => ?_⟩
        simp only [VR] at hv
        obtain ⟨cs, rfl, hcs⟩ := hv
        obtain ⟨c1, c2, h3, h4, h5⟩ := h2 w0 π _ hcs
        have := VRL.nil h5; subst this
        simp at h3
        simp only [encP, VR]
        exact ⟨_, rfl, by rw [h3]; exact h4 π'⟩
      · cases h1
    · cases h
theorem decL_sound {R : Type} {r : R} : ∀ (ps : List PT) (l : List V) (f : PTs.D ps → Option R), decL ps l f = some r →
    ∃ x, f x = some r ∧ ∀ (w0 : World) (π π' : Pi) (cs : List Value), VRL w0 π l cs → VRL w0 π' (encL ps x) cs
  | [], [], f, h => ⟨(), h, fun w0 π π' cs hv => by have := VRL.nil hv; subst this; simp [encL, VRL]⟩
  | [p], [v], f, h => by
    simp only [decL] at h
    obtain ⟨x, h1, h2⟩ := decP_sound p v f h
    refine ⟨x, h1, fun w0 π π' cs hv => ?_⟩
    obtain ⟨c, m, rfl, hc, hm⟩ := VRL.cons hv
    have := VRL.nil hm; subst this
    simp only [encL, VRL, and_true]
    exact h2 w0 π π' c hc
  | p :: q :: ps, v :: l, f, h => by
    simp only [decL] at h
    obtain ⟨x, h1, h2⟩ := decP_sound p v _ h
    obtain ⟨y, h3, h4⟩ := decL_sound (q :: ps) l _ h1
    refine ⟨(x, y), h3, fun w0 π π' cs hv => ?_⟩
    obtain ⟨c, m, rfl, hc, hm⟩ := VRL.cons hv
    simp only [encL, VRL]
    exact ⟨h2 w0 π π' c hc, h4 w0 π π' m hm⟩
  | [], _ :: _, f, h => by simp [decL] at h
  | [p], [], f, h => by simp [decL] at h
  | [p], _ :: _ :: _, f, h => by simp [decL] at h
  | p :: q :: ps, [], f, h => by simp [decL] at h
theorem decT_sound {R : Type} {r : R} (ps : List PT) (v : V) (f : PTs.D ps → Option R) (h : (match v with | .tup l => decL ps l f | _ => none) = some r) :
    ∃ x, f x = some r ∧ ∀ (w0 : World) (π π' : Pi) (c : Value), VR w0 π v c → VR w0 π' (.tup (encL ps x)) c := by
  split at h
  · rename_i l
    obtain ⟨x, h1, h2⟩ := decL_sound ps l f h
    refine ⟨x, h1, fun w0 π π' c hv => ?_⟩
    simp only [VR] at hv ⊢
    obtain ⟨cs, rfl, hcs⟩ := hv
    exact ⟨cs, rfl, h2 w0 π π' _ hcs⟩
  · cases h
theorem decR_sound {R : Type} {r : R} : ∀ (ps : List PT) (v : V) (f : PTs.D ps → Option R), decR ps v f = some r →
    ∃ x, f x = some r ∧ ∀ (w0 : World) (π π' : Pi) (c : Value), VR w0 π v c → VR w0 π' (encR ps x) c
  | [], v, f, h => decT_sound [] v f h
  | [p], v, f, h => decP_sound p v f h
  | p :: q :: ps, v, f, h => decT_sound (p :: q :: ps) v f h

theorem HR.start {w0 w : World} (hb : Below w0.heap.size w0 w) : HR w0 w (fun _ => none) [] w :=
  ⟨hb, Below.refl _ _, fun _ _ => rfl, fun b blk h => by simp at h, fun b b' g h => by cases h⟩
theorem HR.empty {w0 w1 w : World} {π : Pi} {h : List Blk} (hr : HR w0 w1 π h w) : HR w0 w1 (fun _ => none) [] w :=
  ⟨hr.base, hr.below, fun _ _ => rfl, fun b blk h => by simp at h, fun b b' g h => by cases h⟩

theorem specOk_mk {C : Cfg} (hC : CfgOk C) {g : FuncId} {ps qs : List PT} {F : FT ps qs} {fl d : Nat}
    (hF : ∀ (R : Type) (x : PTs.D ps) (k : PTs.D qs → Option R), call C fl d g (encL ps x) [] (fun v _ => decR qs v k) = F R x k) : SpecOk C.P g (mkS ps qs F) := by
  intro R args k r h
  simp only [mkS] at h
  obtain ⟨x, h1, h2⟩ := decL_sound ps args _ h
  rw [← hF] at h1
  obtain ⟨v, h', h3, h4⟩ := call_ok hC fl d _ _ _ _ _ h1
  obtain ⟨y, h5, h6⟩ := decR_sound qs v _ h3
  refine ⟨_, [], h5, ?_⟩
  intro w0 w cargs hb ha
  refine (h4 w0 w w (fun _ => none) cargs (HR.start hb) (h2 w0 _ _ _ ha)).mono ?_
  rintro e w' ⟨cv, π', rfl, _, hr, hv⟩
  exact ⟨cv, fun _ => none, rfl, hr.empty, h6 w0 π' _ cv hv⟩

theorem cfgOk_nil {P : Program} (h1 : ∀ (g : FuncId) (fn : Func), P.funcs[g]? = some fn → (fn.name == "runtime.NumGoroutine") = false) (h2 : P.follows .mixedOrders = true) : CfgOk (Cw P []) :=
  ⟨h1, fun g sp h => by simp [Cw] at h, h2⟩
theorem cfgOk_cons {P : Program} {l : List (FuncId × Spec)} {g : FuncId} {sp : Spec} (h : CfgOk (Cw P l)) (hs : SpecOk P g sp) : CfgOk (Cw P ((g, sp) :: l)) := by
  refine ⟨h.noGo, fun g' sp' h' => ?_, h.mixed⟩
  simp only [Cw, List.lookup_cons] at h'
  split at h'
  · rename_i he
    have : g' = g := by simpa using he
    subst this
    cases h'
    exact fun {R} => hs (R := R)
  · exact h.spec g' sp' h'

/-- A law's body, called on what its arguments read as. -/
theorem law_true {C : Cfg} (hC : CfgOk C) {g : FuncId} {args : List V} {fl d : Nat} (h : call C fl d g args [] (fun v _ => match v with | .bool b => br b (some ()) none | _ => none) = some ())
    {w : World} {cargs : Array Value} (ha : VRL w (fun _ => none) args cargs.toList) : Calls C.P g cargs w fun e w' => e = .returned (.bool true) ∧ Below w.heap.size w w' := by
  obtain ⟨v, h', h1, h2⟩ := call_ok hC fl d _ _ _ _ _ h
  refine (h2 w w w (fun _ => none) cargs (HR.start (Below.refl _ _)) ha).mono ?_
  rintro e w' ⟨cv, π', rfl, _, hr, hv⟩
  split at h1
  · simp only [VR] at hv
    subst hv
    rcases br_some h1 with ⟨rfl, _⟩ | ⟨_, h1⟩
    · exact ⟨rfl, hr.below⟩
    · cases h1
  · cases h1
end
end Go.Eng
