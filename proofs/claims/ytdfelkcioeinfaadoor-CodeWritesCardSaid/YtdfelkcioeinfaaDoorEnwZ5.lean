/- The engine, part Z5: slices.Clone, whose answer keeps nil: its word is told by three cases of its argument. -/
import Derived.Test.YtdfelkcioeinfaaDoorEnwZ4
set_option linter.unusedVariables false
set_option linter.unusedSimpArgs false
namespace Go.Eng
open Go Go.RowKit
theorem FzOk.below {F : Fz} {w w' : World} (h : FzOk F w) (hb : Below w.heap.size w w') : FzOk F w' := by
  intro g off u hu
  have h1 := h g off u hu
  have hlt : g < w.heap.size := by
    refine Classical.byContradiction fun hn => ?_
    have : w.heap[g]? = none := Array.getElem?_eq_none (by omega)
    simp [World.cell?, this] at h1
  rw [hb.cell (show (⟨g, off, none⟩ : Addr).block < w.heap.size from hlt)]
  exact h1
theorem specOk_clone {C : Cfg} (hC : CfgOk C) {g : FuncId} {T : Ty} (hT : 0 < T.size) {fl d c : Nat}
    (hN : ∀ (n : Nat) (w : World), Calls C.P g #[.slice none 0 n] w fun e w' => e = .returned (.slice none 0 0) ∧ w' = w)
    (hE : ∀ (A : Addr) (n : Nat) (w : World), Calls C.P g #[.slice (some A) 0 n] w fun e w' => ∃ a', e = .returned (.slice a' 0 0) ∧ Below w.heap.size w w')
    (hB : ∀ (R : Type) (l : List T.D) (k : List T.D → Option R), call C fl d g [.ro true T l] [] (getR [.own T] k) = br (W.ltN 0 (W.len l)) (br (W.leN (W.mulN (W.len l) c) 140737488355328) (k l) none) none) :
    SpecOk C.P g (mkS [.one (.slice T)] [.own T] (fun R l k => br (W.leN (W.mulN (W.len l) c) 140737488355328) (k l) none)) := by
  intro R args k r h
  simp only [mkS] at h
  split at h
  · rename_i x hx
    change List T.D at x
    rcases br_some h with ⟨hc, h⟩ | ⟨_, h⟩
    rotate_left
    · cases h
    refine ⟨_, _, h, encR_rows [.own T] x, fun F w cargs hz hBs ha => ?_⟩
    have hle : (lend F w false).le (lend F w true) := fun g off u hu => hz g off u hu
    have hv := decL_sound (ps := [.one (.slice T)]) (π' := fun _ => none) (fun _ : true = true => hle) hx ha
    have e0 : encL true [.one (.slice T)] x = [V.ro true T x] := rfl
    rw [e0] at hv
    obtain ⟨cv0, m, hm, hv0, hv1⟩ := VRL.cons hv
    have hm1 : m = [] := VRL.nil hv1
    subst hm1
    have hca : cargs = #[cv0] := by
      have : cargs.toList = [cv0] := hm
      exact Array.toList_inj.1 (by simpa using this)
    simp only [VR, TR] at hv0
    obtain ⟨a, cap, hcv, h1, h2, h3⟩ := hv0
    simp only [List.cons.injEq, and_true] at hcv
    by_cases h0 : 0 < List.length x
    · have hb := hB (List T.D) x some
      have c1 : W.ltN 0 (W.len x) = true := decide_eq_true h0
      rw [c1, hc] at hb
      have hb : call C fl d g [.ro true T x] [] (getR [.own T] some) = some x := hb
      obtain ⟨v, h', q3, q4⟩ := call_ok hC fl d _ _ _ _ _ hb
      unfold getR at q3
      split at q3
      · rename_i y hy
        have hyx : y = x := Option.some.inj q3
        refine (q4 (lend F w) w w (fun _ => none) cargs (HR.start hz hBs) hv).mono ?_
        rintro e w' ⟨cv, Φ', π', rfl, hxx, _, hr, hvv⟩
        obtain ⟨F', π2, q5, q6, q7⟩ := freeze hr hz hxx hy hvv
        rw [hyx] at q6 q7
        exact ⟨cv, F', π2, rfl, q5, q6, q7⟩
      · cases q3
    · have hx0 : x = ([] : List T.D) := List.length_eq_zero_iff.1 (by omega)
      have fin : ∀ (a' : Option Addr) (w' : World), Below w.heap.size w w' → ∃ cv F' π, Ending.returned (.slice a' 0 0) = Ending.returned cv ∧ Fr.ext w.heap.size (only F) (only F') ∧ HR (only F') w π (encR [.own T] x).2 w' ∧ VR (only F') π (encR [.own T] x).1 cv := by
        intro a' w' hbl
        have hfz : ∀ y, FzOk (only F y) w' := by
          intro y
          cases y with
          | false => exact hz.below hbl
          | true => intro g off u hu; simp [only] at hu
        have hr0 : HR (only F) w (fun _ => none) [] w' :=
          ⟨hfz, hbl, hBs, fun _ _ => rfl, fun b blk h => by simp at h, fun b blk A h => by simp at h, fun b b' blk blk' A A' h => by simp at h⟩
        obtain ⟨π', g1, g2, g3⟩ := hr0.grow hT false
        rw [hx0]
        exact ⟨_, F, π', rfl, ⟨Fr.le_refl _, fun y g off u hu => .inl hu⟩, g2, g3 (.slice a' 0 0) (by simp only [VR]; exact ⟨a', rfl⟩)⟩
      have hlen : List.length x = 0 := by rw [hx0]; rfl
      rw [hca, hcv]
      have hl2 : Value.slice a (List.length x) cap = Value.slice a 0 cap := by rw [hlen]
      rw [hl2]
      cases a with
      | none =>
        refine (hN cap w).mono ?_
        rintro e w' ⟨rfl, rfl⟩
        exact fin none w' (Below.refl _ _)
      | some A =>
        refine (hE A cap w).mono ?_
        rintro e w' ⟨a', rfl, hbl⟩
        exact fin a' w' hbl
  · cases h
end Go.Eng
